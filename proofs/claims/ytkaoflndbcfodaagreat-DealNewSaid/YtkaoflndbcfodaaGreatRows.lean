/-
  No cell of these rows narrows 'for every input' (looked for: loops, veiled, ifaces, maps, wideKeys, modest, calm, conditions, laid).
  DERIVED. THE GIVEN ROWS OF THIS SEAT. 6 by the template 'for every input the law returns true; each argument reads behind the call as it read before'; 0 by the template 'total and deterministic' (their statements: YtkaoflndbcfodaaGreatTotals.lean).
  GIVEN WITH THE SEED: the statements are not yours to turn. If you find one false, say at which input.
  Laid BY PROGRAM, IN A SANDBOX (cutbox-rows.mjs): the forced cells as the released guide's own fill.sh prints them over the translation 8bbee47237d48dc3… (all of the seat's roots in one cut). By AI agents, Wed Nov 11 2026. No macro, syntax, notation, axiom, sorry.
-/
import Derived.Test.YtkaoflndbcfodaaGreatChecked
import GoSem.Claim
import GoSem.ClaimJoined
import GoSem.ClaimMapViews
import Derived.JoinedTies
import Derived.KernelRfl
namespace Go.Proofs.YtkaoflndbcfodaaGreat
/- THE CELL 'sum', in the pinned program and in every row, IS THE sha256 OF THE DUMP (.gsa) THAT YtkaoflndbcfodaaGreatProg.lean LOADS. Nothing in Lean hashes anything: it is a label: what it is worth is what the hold of that sum in a sandbox is worth. -/
noncomputable def Tryz.pinned : Pinned := { name := "ytkaoflndbcfodaagreat", sum := "8bbee47237d48dc316d97eaab21c5b3f1245509e1025e213a82388c77ed02f56", checked := Tryz.checked }
namespace Rows
def none {H : Type} : Left H := { results := [], args := [] }

/-- 'consignlaw28.DealNew': WHATEVER THE INPUT: true; the input reads as it did. -/
def dealNewSpec : ChangeSpec := { name := "dealNew", fn := fun _ => fun
  | [d1, d2] => { results := [.lit (.bool true)], args := [d1, d2] }
  | _ => none }
def dealNewRow : OpenClaim := { program := "ytkaoflndbcfodaagreat", sum := "8bbee47237d48dc316d97eaab21c5b3f1245509e1025e213a82388c77ed02f56", func := "consign/consignlaw28.DealNew", spec := "dealNew", unfollowed := true, recurses := true, apart := false }
def DealNewSaid : Prop := dealNewRow.holds Tryz.pinned (OpenSpec.ofChange dealNewSpec)

/-- ITS FALSE NEIGHBOUR: 'it returns false'. Refute it at one input. -/
def dealNewWrong : ChangeSpec := { name := "dealNew", fn := fun _ => fun
  | [d1, d2] => { results := [.lit (.bool false)], args := [d1, d2] }
  | _ => none }
def DealNewWrongFalsely : Prop := dealNewRow.holds Tryz.pinned (OpenSpec.ofChange dealNewWrong)

/-- 'consignlaw28.DealWatches': WHATEVER THE INPUT: true; the input reads as it did. -/
def dealWatchesSpec : ChangeSpec := { name := "dealWatches", fn := fun _ => fun
  | [d1, d2, d3] => { results := [.lit (.bool true)], args := [d1, d2, d3] }
  | _ => none }
def dealWatchesRow : OpenClaim := { program := "ytkaoflndbcfodaagreat", sum := "8bbee47237d48dc316d97eaab21c5b3f1245509e1025e213a82388c77ed02f56", func := "consign/consignlaw28.DealWatches", spec := "dealWatches", unfollowed := true, recurses := true, apart := false }
def DealWatchesSaid : Prop := dealWatchesRow.holds Tryz.pinned (OpenSpec.ofChange dealWatchesSpec)

/-- ITS FALSE NEIGHBOUR: 'it returns false'. Refute it at one input. -/
def dealWatchesWrong : ChangeSpec := { name := "dealWatches", fn := fun _ => fun
  | [d1, d2, d3] => { results := [.lit (.bool false)], args := [d1, d2, d3] }
  | _ => none }
def DealWatchesWrongFalsely : Prop := dealWatchesRow.holds Tryz.pinned (OpenSpec.ofChange dealWatchesWrong)

/-- 'consignlaw28.DealKnown': WHATEVER THE INPUT: true; the input reads as it did. -/
def dealKnownSpec : ChangeSpec := { name := "dealKnown", fn := fun _ => fun
  | [] => { results := [.lit (.bool true)], args := [] }
  | _ => none }
def dealKnownRow : OpenClaim := { program := "ytkaoflndbcfodaagreat", sum := "8bbee47237d48dc316d97eaab21c5b3f1245509e1025e213a82388c77ed02f56", func := "consign/consignlaw28.DealKnown", spec := "dealKnown", unfollowed := true, recurses := true, apart := false }
def DealKnownSaid : Prop := dealKnownRow.holds Tryz.pinned (OpenSpec.ofChange dealKnownSpec)

/-- ITS FALSE NEIGHBOUR: 'it returns false'. Refute it at one input. -/
def dealKnownWrong : ChangeSpec := { name := "dealKnown", fn := fun _ => fun
  | [] => { results := [.lit (.bool false)], args := [] }
  | _ => none }
def DealKnownWrongFalsely : Prop := dealKnownRow.holds Tryz.pinned (OpenSpec.ofChange dealKnownWrong)

/-- 'consignlaw28.DealOne': WHATEVER THE INPUT: true; the input reads as it did. -/
def dealOneSpec : ChangeSpec := { name := "dealOne", fn := fun _ => fun
  | [d1, d2] => { results := [.lit (.bool true)], args := [d1, d2] }
  | _ => none }
def dealOneRow : OpenClaim := { program := "ytkaoflndbcfodaagreat", sum := "8bbee47237d48dc316d97eaab21c5b3f1245509e1025e213a82388c77ed02f56", func := "consign/consignlaw28.DealOne", spec := "dealOne", unfollowed := true, recurses := true, apart := false }
def DealOneSaid : Prop := dealOneRow.holds Tryz.pinned (OpenSpec.ofChange dealOneSpec)

/-- ITS FALSE NEIGHBOUR: 'it returns false'. Refute it at one input. -/
def dealOneWrong : ChangeSpec := { name := "dealOne", fn := fun _ => fun
  | [d1, d2] => { results := [.lit (.bool false)], args := [d1, d2] }
  | _ => none }
def DealOneWrongFalsely : Prop := dealOneRow.holds Tryz.pinned (OpenSpec.ofChange dealOneWrong)

/-- 'consignlaw28.DealTells': WHATEVER THE INPUT: true; the input reads as it did. -/
def dealTellsSpec : ChangeSpec := { name := "dealTells", fn := fun _ => fun
  | [d1, d2] => { results := [.lit (.bool true)], args := [d1, d2] }
  | _ => none }
def dealTellsRow : OpenClaim := { program := "ytkaoflndbcfodaagreat", sum := "8bbee47237d48dc316d97eaab21c5b3f1245509e1025e213a82388c77ed02f56", func := "consign/consignlaw28.DealTells", spec := "dealTells", unfollowed := true, recurses := true, apart := false }
def DealTellsSaid : Prop := dealTellsRow.holds Tryz.pinned (OpenSpec.ofChange dealTellsSpec)

/-- ITS FALSE NEIGHBOUR: 'it returns false'. Refute it at one input. -/
def dealTellsWrong : ChangeSpec := { name := "dealTells", fn := fun _ => fun
  | [d1, d2] => { results := [.lit (.bool false)], args := [d1, d2] }
  | _ => none }
def DealTellsWrongFalsely : Prop := dealTellsRow.holds Tryz.pinned (OpenSpec.ofChange dealTellsWrong)

/-- 'consignlaw28.DealBack': WHATEVER THE INPUT: true; the input reads as it did. -/
def dealBackSpec : ChangeSpec := { name := "dealBack", fn := fun _ => fun
  | [d1, d2] => { results := [.lit (.bool true)], args := [d1, d2] }
  | _ => none }
def dealBackRow : OpenClaim := { program := "ytkaoflndbcfodaagreat", sum := "8bbee47237d48dc316d97eaab21c5b3f1245509e1025e213a82388c77ed02f56", func := "consign/consignlaw28.DealBack", spec := "dealBack", unfollowed := true, recurses := true, apart := false }
def DealBackSaid : Prop := dealBackRow.holds Tryz.pinned (OpenSpec.ofChange dealBackSpec)

/-- ITS FALSE NEIGHBOUR: 'it returns false'. Refute it at one input. -/
def dealBackWrong : ChangeSpec := { name := "dealBack", fn := fun _ => fun
  | [d1, d2] => { results := [.lit (.bool false)], args := [d1, d2] }
  | _ => none }
def DealBackWrongFalsely : Prop := dealBackRow.holds Tryz.pinned (OpenSpec.ofChange dealBackWrong)

/- THE SECOND FORM. 'bulk': how many values and letters a reading holds, each counted each time it is reached (what is shared counts as often as it is met; a slice's spare places count too). A statement '..UptoSaid' is the law's where the arguments, and the package variables that the reading takes, are together of bulk at most 1048576: NARROWER than '..Said'. Prove '..Said' where nothing that the law and all that it calls make is longer than what came in: it says more and counts as full. Else prove '..UptoSaid'. A law counts once. -/
mutual
def uptoBulk {H : Type} : DataW H → Nat
  | .lit (.string bytes) => bytes.length + 1
  | .lit _ => 1
  | .nil => 1
  | .ptr d => uptoBulk d + 1
  | .slice elems spare => uptoBulkAll elems + uptoBulkAll spare + 1
  | .agg parts => uptoBulkAll parts + 1
  | .iface _ d => uptoBulk d + 1
  | .map entries => uptoBulkEntries entries + 1
  | .held _ => 1
def uptoBulkAll {H : Type} : List (DataW H) → Nat
  | [] => 0
  | d :: r => uptoBulk d + uptoBulkAll r
def uptoBulkEntries {H : Type} : List (Lit × DataW H) → Nat
  | [] => 0
  | x :: r => uptoBulkEntry x + uptoBulkEntries r
def uptoBulkEntry {H : Type} : Lit × DataW H → Nat
  | (.string bytes, d) => bytes.length + uptoBulk d + 1
  | (_, d) => uptoBulk d + 1
 end
def uptoSmall : (H : Type) → List (DataW H) → Bool := fun _ ds => decide (uptoBulkAll ds ≤ 1048576)
def OpenSpec.upto (s : _root_.Go.ChangeSpec) : _root_.Go.OpenSpec := { _root_.Go.OpenSpec.ofChange s with cond := some uptoSmall }

/-- 'consignlaw28.DealNew', WHERE WHAT IT READS IS OF BULK AT MOST 1048576: true; the input reads as it did. -/
def dealNewUptoRow : OpenClaim := { program := "ytkaoflndbcfodaagreat", sum := "8bbee47237d48dc316d97eaab21c5b3f1245509e1025e213a82388c77ed02f56", func := "consign/consignlaw28.DealNew", spec := "dealNew", unfollowed := true, recurses := true, apart := false, narrowed := true }
def DealNewUptoSaid : Prop := dealNewUptoRow.holds Tryz.pinned (OpenSpec.upto dealNewSpec)

/-- 'consignlaw28.DealWatches', WHERE WHAT IT READS IS OF BULK AT MOST 1048576: true; the input reads as it did. -/
def dealWatchesUptoRow : OpenClaim := { program := "ytkaoflndbcfodaagreat", sum := "8bbee47237d48dc316d97eaab21c5b3f1245509e1025e213a82388c77ed02f56", func := "consign/consignlaw28.DealWatches", spec := "dealWatches", unfollowed := true, recurses := true, apart := false, narrowed := true }
def DealWatchesUptoSaid : Prop := dealWatchesUptoRow.holds Tryz.pinned (OpenSpec.upto dealWatchesSpec)

/-- 'consignlaw28.DealKnown', WHERE WHAT IT READS IS OF BULK AT MOST 1048576: true; the input reads as it did. -/
def dealKnownUptoRow : OpenClaim := { program := "ytkaoflndbcfodaagreat", sum := "8bbee47237d48dc316d97eaab21c5b3f1245509e1025e213a82388c77ed02f56", func := "consign/consignlaw28.DealKnown", spec := "dealKnown", unfollowed := true, recurses := true, apart := false, narrowed := true }
def DealKnownUptoSaid : Prop := dealKnownUptoRow.holds Tryz.pinned (OpenSpec.upto dealKnownSpec)

/-- 'consignlaw28.DealOne', WHERE WHAT IT READS IS OF BULK AT MOST 1048576: true; the input reads as it did. -/
def dealOneUptoRow : OpenClaim := { program := "ytkaoflndbcfodaagreat", sum := "8bbee47237d48dc316d97eaab21c5b3f1245509e1025e213a82388c77ed02f56", func := "consign/consignlaw28.DealOne", spec := "dealOne", unfollowed := true, recurses := true, apart := false, narrowed := true }
def DealOneUptoSaid : Prop := dealOneUptoRow.holds Tryz.pinned (OpenSpec.upto dealOneSpec)

/-- 'consignlaw28.DealTells', WHERE WHAT IT READS IS OF BULK AT MOST 1048576: true; the input reads as it did. -/
def dealTellsUptoRow : OpenClaim := { program := "ytkaoflndbcfodaagreat", sum := "8bbee47237d48dc316d97eaab21c5b3f1245509e1025e213a82388c77ed02f56", func := "consign/consignlaw28.DealTells", spec := "dealTells", unfollowed := true, recurses := true, apart := false, narrowed := true }
def DealTellsUptoSaid : Prop := dealTellsUptoRow.holds Tryz.pinned (OpenSpec.upto dealTellsSpec)

/-- 'consignlaw28.DealBack', WHERE WHAT IT READS IS OF BULK AT MOST 1048576: true; the input reads as it did. -/
def dealBackUptoRow : OpenClaim := { program := "ytkaoflndbcfodaagreat", sum := "8bbee47237d48dc316d97eaab21c5b3f1245509e1025e213a82388c77ed02f56", func := "consign/consignlaw28.DealBack", spec := "dealBack", unfollowed := true, recurses := true, apart := false, narrowed := true }
def DealBackUptoSaid : Prop := dealBackUptoRow.holds Tryz.pinned (OpenSpec.upto dealBackSpec)

end Rows
end Go.Proofs.YtkaoflndbcfodaaGreat
