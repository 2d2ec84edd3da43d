/-
  No cell of these rows narrows 'for every input' (looked for: loops, veiled, ifaces, maps, wideKeys, modest, calm, conditions, laid).
  DERIVED. THE GIVEN ROWS OF THIS SEAT. 7 by the template 'for every input the law returns true; each argument reads behind the call as it read before'; 0 by the template 'total and deterministic' (their statements: YtcdpiemkbefcoaaTotals.lean).
  GIVEN WITH THE SEED: the statements are not yours to turn. If you find one false, say at which input.
  Laid BY PROGRAM, IN A SANDBOX (cutbox-rows.mjs): the forced cells as the released guide's own fill.sh prints them over the translation 98f8f70935da758e… (all of the seat's roots in one cut). By AI agents, Wed Nov 11 2026. No macro, syntax, notation, axiom, sorry.
-/
import Derived.Test.YtcdpiemkbefcoaaChecked
import GoSem.Claim
import GoSem.ClaimJoined
import GoSem.ClaimMapViews
import Derived.JoinedTies
import Derived.KernelRfl
namespace Go.Proofs.Ytcdpiemkbefcoaa
/- THE CELL 'sum', in the pinned program and in every row, IS THE sha256 OF THE DUMP (.gsa) THAT YtcdpiemkbefcoaaProg.lean LOADS. Nothing in Lean hashes anything: it is a label: what it is worth is what the hold of that sum in a sandbox is worth. -/
noncomputable def Try.pinned : Pinned := { name := "ytcdpiemkbefcoaa", sum := "98f8f70935da758efe722ccd15dcb7ac59bd3175fcca5b08007a9b4764dd1f26", checked := Try.checked }
namespace Rows
def none {H : Type} : Left H := { results := [], args := [] }

/-- 'consignlaw11.InsertTells': WHATEVER THE INPUT: true; the input reads as it did. -/
def insertTellsSpec : ChangeSpec := { name := "insertTells", fn := fun _ => fun
  | [d1, d2, d3] => { results := [.lit (.bool true)], args := [d1, d2, d3] }
  | _ => none }
def insertTellsRow : OpenClaim := { program := "ytcdpiemkbefcoaa", sum := "98f8f70935da758efe722ccd15dcb7ac59bd3175fcca5b08007a9b4764dd1f26", func := "consign/consignlaw11.InsertTells", spec := "insertTells", unfollowed := true, recurses := true, apart := false }
def InsertTellsSaid : Prop := insertTellsRow.holds Try.pinned (OpenSpec.ofChange insertTellsSpec)

/-- ITS FALSE NEIGHBOUR: 'it returns false'. Refute it at one input. -/
def insertTellsWrong : ChangeSpec := { name := "insertTells", fn := fun _ => fun
  | [d1, d2, d3] => { results := [.lit (.bool false)], args := [d1, d2, d3] }
  | _ => none }
def InsertTellsWrongFalsely : Prop := insertTellsRow.holds Try.pinned (OpenSpec.ofChange insertTellsWrong)

/-- 'consignlaw11.InsertOdd': WHATEVER THE INPUT: true; the input reads as it did. -/
def insertOddSpec : ChangeSpec := { name := "insertOdd", fn := fun _ => fun
  | [d1, d2, d3, d4] => { results := [.lit (.bool true)], args := [d1, d2, d3, d4] }
  | _ => none }
def insertOddRow : OpenClaim := { program := "ytcdpiemkbefcoaa", sum := "98f8f70935da758efe722ccd15dcb7ac59bd3175fcca5b08007a9b4764dd1f26", func := "consign/consignlaw11.InsertOdd", spec := "insertOdd", unfollowed := true, recurses := true, apart := false }
def InsertOddSaid : Prop := insertOddRow.holds Try.pinned (OpenSpec.ofChange insertOddSpec)

/-- ITS FALSE NEIGHBOUR: 'it returns false'. Refute it at one input. -/
def insertOddWrong : ChangeSpec := { name := "insertOdd", fn := fun _ => fun
  | [d1, d2, d3, d4] => { results := [.lit (.bool false)], args := [d1, d2, d3, d4] }
  | _ => none }
def InsertOddWrongFalsely : Prop := insertOddRow.holds Try.pinned (OpenSpec.ofChange insertOddWrong)

/-- 'consignlaw11.InsertPlaces': WHATEVER THE INPUT: true; the input reads as it did. -/
def insertPlacesSpec : ChangeSpec := { name := "insertPlaces", fn := fun _ => fun
  | [d1, d2] => { results := [.lit (.bool true)], args := [d1, d2] }
  | _ => none }
def insertPlacesRow : OpenClaim := { program := "ytcdpiemkbefcoaa", sum := "98f8f70935da758efe722ccd15dcb7ac59bd3175fcca5b08007a9b4764dd1f26", func := "consign/consignlaw11.InsertPlaces", spec := "insertPlaces", unfollowed := true, recurses := true, apart := false }
def InsertPlacesSaid : Prop := insertPlacesRow.holds Try.pinned (OpenSpec.ofChange insertPlacesSpec)

/-- ITS FALSE NEIGHBOUR: 'it returns false'. Refute it at one input. -/
def insertPlacesWrong : ChangeSpec := { name := "insertPlaces", fn := fun _ => fun
  | [d1, d2] => { results := [.lit (.bool false)], args := [d1, d2] }
  | _ => none }
def InsertPlacesWrongFalsely : Prop := insertPlacesRow.holds Try.pinned (OpenSpec.ofChange insertPlacesWrong)

/-- 'consignlaw11.InsertOpen': WHATEVER THE INPUT: true; the input reads as it did. -/
def insertOpenSpec : ChangeSpec := { name := "insertOpen", fn := fun _ => fun
  | [d1, d2] => { results := [.lit (.bool true)], args := [d1, d2] }
  | _ => none }
def insertOpenRow : OpenClaim := { program := "ytcdpiemkbefcoaa", sum := "98f8f70935da758efe722ccd15dcb7ac59bd3175fcca5b08007a9b4764dd1f26", func := "consign/consignlaw11.InsertOpen", spec := "insertOpen", unfollowed := true, recurses := true, apart := false }
def InsertOpenSaid : Prop := insertOpenRow.holds Try.pinned (OpenSpec.ofChange insertOpenSpec)

/-- ITS FALSE NEIGHBOUR: 'it returns false'. Refute it at one input. -/
def insertOpenWrong : ChangeSpec := { name := "insertOpen", fn := fun _ => fun
  | [d1, d2] => { results := [.lit (.bool false)], args := [d1, d2] }
  | _ => none }
def InsertOpenWrongFalsely : Prop := insertOpenRow.holds Try.pinned (OpenSpec.ofChange insertOpenWrong)

/-- 'consignlaw11.InsertKnown': WHATEVER THE INPUT: true; the input reads as it did. -/
def insertKnownSpec : ChangeSpec := { name := "insertKnown", fn := fun _ => fun
  | [] => { results := [.lit (.bool true)], args := [] }
  | _ => none }
def insertKnownRow : OpenClaim := { program := "ytcdpiemkbefcoaa", sum := "98f8f70935da758efe722ccd15dcb7ac59bd3175fcca5b08007a9b4764dd1f26", func := "consign/consignlaw11.InsertKnown", spec := "insertKnown", unfollowed := true, recurses := true, apart := false }
def InsertKnownSaid : Prop := insertKnownRow.holds Try.pinned (OpenSpec.ofChange insertKnownSpec)

/-- ITS FALSE NEIGHBOUR: 'it returns false'. Refute it at one input. -/
def insertKnownWrong : ChangeSpec := { name := "insertKnown", fn := fun _ => fun
  | [] => { results := [.lit (.bool false)], args := [] }
  | _ => none }
def InsertKnownWrongFalsely : Prop := insertKnownRow.holds Try.pinned (OpenSpec.ofChange insertKnownWrong)

/-- 'consignlaw11.InsertRight': WHATEVER THE INPUT: true; the input reads as it did. -/
def insertRightSpec : ChangeSpec := { name := "insertRight", fn := fun _ => fun
  | [d1, d2, d3] => { results := [.lit (.bool true)], args := [d1, d2, d3] }
  | _ => none }
def insertRightRow : OpenClaim := { program := "ytcdpiemkbefcoaa", sum := "98f8f70935da758efe722ccd15dcb7ac59bd3175fcca5b08007a9b4764dd1f26", func := "consign/consignlaw11.InsertRight", spec := "insertRight", unfollowed := true, recurses := true, apart := false }
def InsertRightSaid : Prop := insertRightRow.holds Try.pinned (OpenSpec.ofChange insertRightSpec)

/-- ITS FALSE NEIGHBOUR: 'it returns false'. Refute it at one input. -/
def insertRightWrong : ChangeSpec := { name := "insertRight", fn := fun _ => fun
  | [d1, d2, d3] => { results := [.lit (.bool false)], args := [d1, d2, d3] }
  | _ => none }
def InsertRightWrongFalsely : Prop := insertRightRow.holds Try.pinned (OpenSpec.ofChange insertRightWrong)

/-- 'consignlaw11.InsertSums': WHATEVER THE INPUT: true; the input reads as it did. -/
def insertSumsSpec : ChangeSpec := { name := "insertSums", fn := fun _ => fun
  | [d1, d2] => { results := [.lit (.bool true)], args := [d1, d2] }
  | _ => none }
def insertSumsRow : OpenClaim := { program := "ytcdpiemkbefcoaa", sum := "98f8f70935da758efe722ccd15dcb7ac59bd3175fcca5b08007a9b4764dd1f26", func := "consign/consignlaw11.InsertSums", spec := "insertSums", unfollowed := true, recurses := true, apart := false }
def InsertSumsSaid : Prop := insertSumsRow.holds Try.pinned (OpenSpec.ofChange insertSumsSpec)

/-- ITS FALSE NEIGHBOUR: 'it returns false'. Refute it at one input. -/
def insertSumsWrong : ChangeSpec := { name := "insertSums", fn := fun _ => fun
  | [d1, d2] => { results := [.lit (.bool false)], args := [d1, d2] }
  | _ => none }
def InsertSumsWrongFalsely : Prop := insertSumsRow.holds Try.pinned (OpenSpec.ofChange insertSumsWrong)

/- THE SECOND FORM. 'bulk': how many values and letters a reading holds, each counted each time it is reached (what is shared counts as often as it is met; a slice's spare places count too). A statement '..UptoSaid' is the law's where the arguments, and the package variables that the reading takes, are together of bulk at most 1048576: NARROWER than '..Said'. Prove '..Said' where nothing that the law and all that it calls make is longer than what came in: it says more and counts as full. Else prove '..UptoSaid'. A law counts once. -/
mutual
def uptoBulk {H : Type} : DataW H → Nat
  | .lit (.string bytes) => bytes.length + 1
  | .lit _ => 1
  | .nil => 1
  | .ptr d => uptoBulk d + 1
  | .slice elems spare => uptoBulkAll elems + uptoBulkAll spare + 1
  | .agg parts => uptoBulkAll parts + 1
  | .iface _ d => uptoBulk d + 1
  | .map entries => uptoBulkEntries entries + 1
  | .held _ => 1
def uptoBulkAll {H : Type} : List (DataW H) → Nat
  | [] => 0
  | d :: r => uptoBulk d + uptoBulkAll r
def uptoBulkEntries {H : Type} : List (Lit × DataW H) → Nat
  | [] => 0
  | x :: r => uptoBulkEntry x + uptoBulkEntries r
def uptoBulkEntry {H : Type} : Lit × DataW H → Nat
  | (.string bytes, d) => bytes.length + uptoBulk d + 1
  | (_, d) => uptoBulk d + 1
 end
def uptoSmall : (H : Type) → List (DataW H) → Bool := fun _ ds => decide (uptoBulkAll ds ≤ 1048576)
def OpenSpec.upto (s : _root_.Go.ChangeSpec) : _root_.Go.OpenSpec := { _root_.Go.OpenSpec.ofChange s with cond := some uptoSmall }

/-- 'consignlaw11.InsertTells', WHERE WHAT IT READS IS OF BULK AT MOST 1048576: true; the input reads as it did. -/
def insertTellsUptoRow : OpenClaim := { program := "ytcdpiemkbefcoaa", sum := "98f8f70935da758efe722ccd15dcb7ac59bd3175fcca5b08007a9b4764dd1f26", func := "consign/consignlaw11.InsertTells", spec := "insertTells", unfollowed := true, recurses := true, apart := false, narrowed := true }
def InsertTellsUptoSaid : Prop := insertTellsUptoRow.holds Try.pinned (OpenSpec.upto insertTellsSpec)

/-- 'consignlaw11.InsertOdd', WHERE WHAT IT READS IS OF BULK AT MOST 1048576: true; the input reads as it did. -/
def insertOddUptoRow : OpenClaim := { program := "ytcdpiemkbefcoaa", sum := "98f8f70935da758efe722ccd15dcb7ac59bd3175fcca5b08007a9b4764dd1f26", func := "consign/consignlaw11.InsertOdd", spec := "insertOdd", unfollowed := true, recurses := true, apart := false, narrowed := true }
def InsertOddUptoSaid : Prop := insertOddUptoRow.holds Try.pinned (OpenSpec.upto insertOddSpec)

/-- 'consignlaw11.InsertPlaces', WHERE WHAT IT READS IS OF BULK AT MOST 1048576: true; the input reads as it did. -/
def insertPlacesUptoRow : OpenClaim := { program := "ytcdpiemkbefcoaa", sum := "98f8f70935da758efe722ccd15dcb7ac59bd3175fcca5b08007a9b4764dd1f26", func := "consign/consignlaw11.InsertPlaces", spec := "insertPlaces", unfollowed := true, recurses := true, apart := false, narrowed := true }
def InsertPlacesUptoSaid : Prop := insertPlacesUptoRow.holds Try.pinned (OpenSpec.upto insertPlacesSpec)

/-- 'consignlaw11.InsertOpen', WHERE WHAT IT READS IS OF BULK AT MOST 1048576: true; the input reads as it did. -/
def insertOpenUptoRow : OpenClaim := { program := "ytcdpiemkbefcoaa", sum := "98f8f70935da758efe722ccd15dcb7ac59bd3175fcca5b08007a9b4764dd1f26", func := "consign/consignlaw11.InsertOpen", spec := "insertOpen", unfollowed := true, recurses := true, apart := false, narrowed := true }
def InsertOpenUptoSaid : Prop := insertOpenUptoRow.holds Try.pinned (OpenSpec.upto insertOpenSpec)

/-- 'consignlaw11.InsertKnown', WHERE WHAT IT READS IS OF BULK AT MOST 1048576: true; the input reads as it did. -/
def insertKnownUptoRow : OpenClaim := { program := "ytcdpiemkbefcoaa", sum := "98f8f70935da758efe722ccd15dcb7ac59bd3175fcca5b08007a9b4764dd1f26", func := "consign/consignlaw11.InsertKnown", spec := "insertKnown", unfollowed := true, recurses := true, apart := false, narrowed := true }
def InsertKnownUptoSaid : Prop := insertKnownUptoRow.holds Try.pinned (OpenSpec.upto insertKnownSpec)

/-- 'consignlaw11.InsertRight', WHERE WHAT IT READS IS OF BULK AT MOST 1048576: true; the input reads as it did. -/
def insertRightUptoRow : OpenClaim := { program := "ytcdpiemkbefcoaa", sum := "98f8f70935da758efe722ccd15dcb7ac59bd3175fcca5b08007a9b4764dd1f26", func := "consign/consignlaw11.InsertRight", spec := "insertRight", unfollowed := true, recurses := true, apart := false, narrowed := true }
def InsertRightUptoSaid : Prop := insertRightUptoRow.holds Try.pinned (OpenSpec.upto insertRightSpec)

/-- 'consignlaw11.InsertSums', WHERE WHAT IT READS IS OF BULK AT MOST 1048576: true; the input reads as it did. -/
def insertSumsUptoRow : OpenClaim := { program := "ytcdpiemkbefcoaa", sum := "98f8f70935da758efe722ccd15dcb7ac59bd3175fcca5b08007a9b4764dd1f26", func := "consign/consignlaw11.InsertSums", spec := "insertSums", unfollowed := true, recurses := true, apart := false, narrowed := true }
def InsertSumsUptoSaid : Prop := insertSumsUptoRow.holds Try.pinned (OpenSpec.upto insertSumsSpec)

end Rows
end Go.Proofs.Ytcdpiemkbefcoaa
