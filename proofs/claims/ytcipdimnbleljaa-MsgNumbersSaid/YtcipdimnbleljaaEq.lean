/-
  Layer 18 (msg): '==' on digests, requests, outcomes.
-/
import Derived.Test.YtcipdimnbleljaaWr
import Derived.Stop.BytesEq
namespace Go.Proofs.Ytcipdimnbleljaa
open Go.RowKit
open Extern.Stop (cell)

set_option maxRecDepth 100000 in
theorem eql_digest (w : World) (A B : Array Value) (da db : List UInt8) (hA : A.toList = da.map cell) (hB : B.toList = db.map cell) (la : da.length = 32) (lb : db.length = 32) :
    (binOp .eql 37 (.agg A) (.agg B)).run Try.prog w = .ok (.bool (da == db)) w := by
  have eA : A = (da.map cell).toArray := by rw [← hA]
  have eB : B = (db.map cell).toArray := by rw [← hB]
  rw [eA, eB]
  exact run_eql_bytes w 37 5 32 Try.underlying37 Try.underlying5 (fun w => by kernel_rfl) da db la lb

set_option maxRecDepth 100000 in
theorem eql_request (w : World) (x y : Nat → Int) :
    (binOp .eql 35 (.agg #[.int .i64 (x 0), .int .i64 (x 1), .int .i64 (x 2), .int .i64 (x 3), .int .i64 (x 4), .int .i64 (x 5), .int .i64 (x 6), .int .i64 (x 7), .int .i64 (x 8), .int .i64 (x 9)])
      (.agg #[.int .i64 (y 0), .int .i64 (y 1), .int .i64 (y 2), .int .i64 (y 3), .int .i64 (y 4), .int .i64 (y 5), .int .i64 (y 6), .int .i64 (y 7), .int .i64 (y 8), .int .i64 (y 9)])).run Try.prog w
      = .ok (.bool ((List.range 10).all fun i => x i == y i)) w := by
  go_simp
  repeat' split
  all_goals simp_all
set_option maxRecDepth 100000 in
theorem eql_outcome (w : World) (s o p s' o' p' : Int) :
    (binOp .eql 40 (.agg #[.int .i64 s, .int .i64 o, .int .u64 p]) (.agg #[.int .i64 s', .int .i64 o', .int .u64 p'])).run Try.prog w
      = .ok (.bool (decide (s = s' ∧ o = o' ∧ p = p'))) w := by
  go_simp
  repeat' split
  all_goals simp_all
end Go.Proofs.Ytcipdimnbleljaa
