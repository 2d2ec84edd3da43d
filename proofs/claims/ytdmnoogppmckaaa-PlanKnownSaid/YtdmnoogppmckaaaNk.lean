/-
  Layer 13: a plan that is none.
-/
import Derived.Test.YtdmnoogppmckaaaPs
namespace Go.Proofs.Ytdmnoogppmckaaa
open Go.RowKit

theorem nil_where (req : Int) (w : World) : Calls Try.prog 9 #[.pointer none, .int .i64 req] w fun e w' => e = .returned (.int .i64 (-1)) ∧ Below w.heap.size w w' := by
  go_enter Try.func9, Try.ntmps9
  go_wp2_with fail
  go_ret
  exact ⟨rfl, Below.refl _ _⟩
theorem nil_has (req : Int) (w : World) : Calls Try.prog 13 #[.pointer none, .int .i64 req] w fun e w' => e = .returned (.bool false) ∧ Below w.heap.size w w' := by
  go_enter Try.func13, Try.ntmps13
  go_wp2_with fail
  refine (nil_where req w).mono ?_
  rintro e w1 ⟨rfl, hb⟩
  replace hb := Lib.hid hb
  go_wp2_with fail
  go_ret
  exact ⟨rfl, hb.out⟩
theorem nil_price (req : Int) (w : World) : Calls Try.prog 7 #[.pointer none, .int .i64 req] w fun e w' => e = .returned (.tuple #[.int .i64 0, .int .i64 0, .int .i64 1]) ∧ Below w.heap.size w w' := by
  go_enter Try.func7, Try.ntmps7
  go_wp2_with fail
  first | go_ret | go_ret2 | go_ret3
  exact ⟨rfl, Below.refl _ _⟩
theorem nil_put (req : Int) (w : World) : Calls Try.prog 12 #[.pointer none, .int .i64 req] w fun e w' => e = .returned (.tuple #[.int .i64 0, .int .i64 1]) ∧ Below w.heap.size w w' := by
  go_enter Try.func12, Try.ntmps12
  go_wp2_with fail
  refine (nil_price req w).mono ?_
  rintro e w1 ⟨rfl, hb⟩
  replace hb := Lib.hid hb
  go_wp2_with fail
  first | go_ret | go_ret2 | go_ret3
  exact ⟨rfl, hb.out⟩
theorem nil_take (req : Int) (w : World) : Calls Try.prog 8 #[.pointer none, .int .i64 req] w fun e w' => e = .returned (.int .i64 1) ∧ Below w.heap.size w w' := by
  go_enter Try.func8, Try.ntmps8
  go_wp2_with fail
  go_ret
  exact ⟨rfl, Below.refl _ _⟩
theorem nil_all (w : World) : Calls Try.prog 14 #[.pointer none] w fun e w' => e = .returned (.slice none 0 0) ∧ Below w.heap.size w w' := by
  go_enter Try.func14, Try.ntmps14
  go_wp2_with fail
  go_ret
  exact ⟨rfl, Below.refl _ _⟩
theorem nil_routes (w : World) : Calls Try.prog 10 #[.pointer none] w fun e w' => e = .returned (.slice none 0 0) ∧ Below w.heap.size w w' := by
  go_enter Try.func10, Try.ntmps10
  go_wp2_with fail
  first | go_ret | go_ret2 | go_ret3
  exact ⟨rfl, Below.refl _ _⟩
theorem nil_total (w : World) : Calls Try.prog 11 #[.pointer none] w fun e w' => e = .returned (.int .i64 0) ∧ Below w.heap.size w w' := by
  go_enter Try.func11, Try.ntmps11
  go_wp2_with fail
  first | go_ret | go_ret2 | go_ret3
  exact ⟨rfl, Below.refl _ _⟩
theorem nil_copy (w : World) : Calls Try.prog 15 #[.pointer none] w fun e w' => e = .returned (.pointer none) ∧ Below w.heap.size w w' := by
  go_enter Try.func15, Try.ntmps15
  go_wp2_with fail
  first | go_ret | go_ret2 | go_ret3
  exact ⟨rfl, Below.refl _ _⟩
end Go.Proofs.Ytdmnoogppmckaaa
