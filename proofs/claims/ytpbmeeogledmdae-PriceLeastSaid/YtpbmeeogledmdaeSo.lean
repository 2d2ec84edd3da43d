/-
  Go's slices.Sort at integers: the kit's contract, laid at this program in plain words; and in the words of rows that a call made.
-/
import Derived.Test.YtpbmeeogledmdaeEls
import Derived.Shelf.SortM.Plain
import Derived.Shelf.SortM.SortNone
import Derived.Sort.OwnSortedInts
namespace Go.Proofs.Ytpbmeeogledmdae
open Go.RowKit Go.Shelf Go.Sort

theorem inV_map (zs : List Int) : (zs.map fun z => [Value.int .i64 z]).flatten = zs.map (Value.int .i64) := by
  induction zs with
  | nil => rfl
  | cons z zs ih => simp [ih]
end Go.Proofs.Ytpbmeeogledmdae
