/-
  No cell of these rows narrows 'for every input' (looked for: loops, veiled, ifaces, maps, wideKeys, modest, calm, conditions, laid).
  DERIVED. THE GIVEN ROWS OF THIS SEAT. 4 by the template 'for every input the law returns true; each argument reads behind the call as it read before'; 0 by the template 'total and deterministic' (their statements: YtaijimckbpplnaaTotals.lean).
  GIVEN WITH THE SEED: the statements are not yours to turn. If you find one false, say at which input.
  Laid BY PROGRAM, IN A SANDBOX (cutbox-rows.mjs): the forced cells as the released guide's own fill.sh prints them over the translation f6b4116441cb749d… (all of the seat's roots in one cut). By AI agents, Wed Nov 11 2026. No macro, syntax, notation, axiom, sorry.
-/
import Derived.Test.YtaijimckbpplnaaChecked
import GoSem.Claim
import GoSem.ClaimJoined
import GoSem.ClaimMapViews
import Derived.JoinedTies
import Derived.KernelRfl
namespace Go.Proofs.Ytaijimckbpplnaa
/- THE CELL 'sum', in the pinned program and in every row, IS THE sha256 OF THE DUMP (.gsa) THAT YtaijimckbpplnaaProg.lean LOADS. Nothing in Lean hashes anything: it is a label: what it is worth is what the hold of that sum in a sandbox is worth. -/
noncomputable def Try.pinned : Pinned := { name := "ytaijimckbpplnaa", sum := "f6b4116441cb749df2a65993ef44ecd25fda7db139372a5d25e5cbc467158246", checked := Try.checked }
namespace Rows
def none {H : Type} : Left H := { results := [], args := [] }

/-- 'consignlaw08.LoadTells': WHATEVER THE INPUT: true; the input reads as it did. -/
def loadTellsSpec : ChangeSpec := { name := "loadTells", fn := fun _ => fun
  | [d1, d2, d3] => { results := [.lit (.bool true)], args := [d1, d2, d3] }
  | _ => none }
def loadTellsRow : OpenClaim := { program := "ytaijimckbpplnaa", sum := "f6b4116441cb749df2a65993ef44ecd25fda7db139372a5d25e5cbc467158246", func := "consign/consignlaw08.LoadTells", spec := "loadTells", unfollowed := true, recurses := true, apart := false }
def LoadTellsSaid : Prop := loadTellsRow.holds Try.pinned (OpenSpec.ofChange loadTellsSpec)

/-- ITS FALSE NEIGHBOUR: 'it returns false'. Refute it at one input. -/
def loadTellsWrong : ChangeSpec := { name := "loadTells", fn := fun _ => fun
  | [d1, d2, d3] => { results := [.lit (.bool false)], args := [d1, d2, d3] }
  | _ => none }
def LoadTellsWrongFalsely : Prop := loadTellsRow.holds Try.pinned (OpenSpec.ofChange loadTellsWrong)

/-- 'consignlaw08.LoadFlows': WHATEVER THE INPUT: true; the input reads as it did. -/
def loadFlowsSpec : ChangeSpec := { name := "loadFlows", fn := fun _ => fun
  | [d1, d2] => { results := [.lit (.bool true)], args := [d1, d2] }
  | _ => none }
def loadFlowsRow : OpenClaim := { program := "ytaijimckbpplnaa", sum := "f6b4116441cb749df2a65993ef44ecd25fda7db139372a5d25e5cbc467158246", func := "consign/consignlaw08.LoadFlows", spec := "loadFlows", unfollowed := true, recurses := true, apart := false }
def LoadFlowsSaid : Prop := loadFlowsRow.holds Try.pinned (OpenSpec.ofChange loadFlowsSpec)

/-- ITS FALSE NEIGHBOUR: 'it returns false'. Refute it at one input. -/
def loadFlowsWrong : ChangeSpec := { name := "loadFlows", fn := fun _ => fun
  | [d1, d2] => { results := [.lit (.bool false)], args := [d1, d2] }
  | _ => none }
def LoadFlowsWrongFalsely : Prop := loadFlowsRow.holds Try.pinned (OpenSpec.ofChange loadFlowsWrong)

/-- 'consignlaw08.LoadKnown': WHATEVER THE INPUT: true; the input reads as it did. -/
def loadKnownSpec : ChangeSpec := { name := "loadKnown", fn := fun _ => fun
  | [] => { results := [.lit (.bool true)], args := [] }
  | _ => none }
def loadKnownRow : OpenClaim := { program := "ytaijimckbpplnaa", sum := "f6b4116441cb749df2a65993ef44ecd25fda7db139372a5d25e5cbc467158246", func := "consign/consignlaw08.LoadKnown", spec := "loadKnown", unfollowed := true, recurses := true, apart := false }
def LoadKnownSaid : Prop := loadKnownRow.holds Try.pinned (OpenSpec.ofChange loadKnownSpec)

/-- ITS FALSE NEIGHBOUR: 'it returns false'. Refute it at one input. -/
def loadKnownWrong : ChangeSpec := { name := "loadKnown", fn := fun _ => fun
  | [] => { results := [.lit (.bool false)], args := [] }
  | _ => none }
def LoadKnownWrongFalsely : Prop := loadKnownRow.holds Try.pinned (OpenSpec.ofChange loadKnownWrong)

/-- 'consignlaw08.LoadLess': WHATEVER THE INPUT: true; the input reads as it did. -/
def loadLessSpec : ChangeSpec := { name := "loadLess", fn := fun _ => fun
  | [d1, d2, d3] => { results := [.lit (.bool true)], args := [d1, d2, d3] }
  | _ => none }
def loadLessRow : OpenClaim := { program := "ytaijimckbpplnaa", sum := "f6b4116441cb749df2a65993ef44ecd25fda7db139372a5d25e5cbc467158246", func := "consign/consignlaw08.LoadLess", spec := "loadLess", unfollowed := true, recurses := true, apart := false }
def LoadLessSaid : Prop := loadLessRow.holds Try.pinned (OpenSpec.ofChange loadLessSpec)

/-- ITS FALSE NEIGHBOUR: 'it returns false'. Refute it at one input. -/
def loadLessWrong : ChangeSpec := { name := "loadLess", fn := fun _ => fun
  | [d1, d2, d3] => { results := [.lit (.bool false)], args := [d1, d2, d3] }
  | _ => none }
def LoadLessWrongFalsely : Prop := loadLessRow.holds Try.pinned (OpenSpec.ofChange loadLessWrong)

/- THE SECOND FORM. 'bulk': how many values and letters a reading holds, each counted each time it is reached (what is shared counts as often as it is met; a slice's spare places count too). A statement '..UptoSaid' is the law's where the arguments, and the package variables that the reading takes, are together of bulk at most 1048576: NARROWER than '..Said'. Prove '..Said' where nothing that the law and all that it calls make is longer than what came in: it says more and counts as full. Else prove '..UptoSaid'. A law counts once. -/
mutual
def uptoBulk {H : Type} : DataW H → Nat
  | .lit (.string bytes) => bytes.length + 1
  | .lit _ => 1
  | .nil => 1
  | .ptr d => uptoBulk d + 1
  | .slice elems spare => uptoBulkAll elems + uptoBulkAll spare + 1
  | .agg parts => uptoBulkAll parts + 1
  | .iface _ d => uptoBulk d + 1
  | .map entries => uptoBulkEntries entries + 1
  | .held _ => 1
def uptoBulkAll {H : Type} : List (DataW H) → Nat
  | [] => 0
  | d :: r => uptoBulk d + uptoBulkAll r
def uptoBulkEntries {H : Type} : List (Lit × DataW H) → Nat
  | [] => 0
  | x :: r => uptoBulkEntry x + uptoBulkEntries r
def uptoBulkEntry {H : Type} : Lit × DataW H → Nat
  | (.string bytes, d) => bytes.length + uptoBulk d + 1
  | (_, d) => uptoBulk d + 1
 end
def uptoSmall : (H : Type) → List (DataW H) → Bool := fun _ ds => decide (uptoBulkAll ds ≤ 1048576)
def OpenSpec.upto (s : _root_.Go.ChangeSpec) : _root_.Go.OpenSpec := { _root_.Go.OpenSpec.ofChange s with cond := some uptoSmall }

/-- 'consignlaw08.LoadTells', WHERE WHAT IT READS IS OF BULK AT MOST 1048576: true; the input reads as it did. -/
def loadTellsUptoRow : OpenClaim := { program := "ytaijimckbpplnaa", sum := "f6b4116441cb749df2a65993ef44ecd25fda7db139372a5d25e5cbc467158246", func := "consign/consignlaw08.LoadTells", spec := "loadTells", unfollowed := true, recurses := true, apart := false, narrowed := true }
def LoadTellsUptoSaid : Prop := loadTellsUptoRow.holds Try.pinned (OpenSpec.upto loadTellsSpec)

/-- 'consignlaw08.LoadFlows', WHERE WHAT IT READS IS OF BULK AT MOST 1048576: true; the input reads as it did. -/
def loadFlowsUptoRow : OpenClaim := { program := "ytaijimckbpplnaa", sum := "f6b4116441cb749df2a65993ef44ecd25fda7db139372a5d25e5cbc467158246", func := "consign/consignlaw08.LoadFlows", spec := "loadFlows", unfollowed := true, recurses := true, apart := false, narrowed := true }
def LoadFlowsUptoSaid : Prop := loadFlowsUptoRow.holds Try.pinned (OpenSpec.upto loadFlowsSpec)

/-- 'consignlaw08.LoadKnown', WHERE WHAT IT READS IS OF BULK AT MOST 1048576: true; the input reads as it did. -/
def loadKnownUptoRow : OpenClaim := { program := "ytaijimckbpplnaa", sum := "f6b4116441cb749df2a65993ef44ecd25fda7db139372a5d25e5cbc467158246", func := "consign/consignlaw08.LoadKnown", spec := "loadKnown", unfollowed := true, recurses := true, apart := false, narrowed := true }
def LoadKnownUptoSaid : Prop := loadKnownUptoRow.holds Try.pinned (OpenSpec.upto loadKnownSpec)

/-- 'consignlaw08.LoadLess', WHERE WHAT IT READS IS OF BULK AT MOST 1048576: true; the input reads as it did. -/
def loadLessUptoRow : OpenClaim := { program := "ytaijimckbpplnaa", sum := "f6b4116441cb749df2a65993ef44ecd25fda7db139372a5d25e5cbc467158246", func := "consign/consignlaw08.LoadLess", spec := "loadLess", unfollowed := true, recurses := true, apart := false, narrowed := true }
def LoadLessUptoSaid : Prop := loadLessUptoRow.holds Try.pinned (OpenSpec.upto loadLessSpec)

end Rows
end Go.Proofs.Ytaijimckbpplnaa
