/-
  Layer 17 (frame): the chapter's examples ('works') hold.
-/
import Derived.Test.YtgkfmcmnlpapcaaFr4
namespace Go.Proofs.Ytgkfmcmnlpapcaa
open Go.RowKit Frm

theorem eq2 {P : Program} {f : FuncId} {args : Array Value} {w : World} {v v' : Value} (h : Calls P f args w fun e w' => e = .returned v ∧ Below w.heap.size w w') (hv : v = v') : Calls P f args w fun e w' => e = .returned v' ∧ Below w.heap.size w w' := hv ▸ h

set_option maxHeartbeats 1000000 in
set_option maxRecDepth 100000 in
theorem works_calls (w : World) : Calls Try.prog 11 #[] w fun e w' => e = .returned (.bool true) ∧ Below w.heap.size w w' := by
  have k1 := Lib.hid fun w => eq2 (lay_calls 7 ⟨#[97, 98]⟩ w (by decide)) (v' := .tuple #[.string ⟨#[7, 0, 2, 97, 98]⟩, .int .i64 0]) (by kernel_rfl)
  have k2 := Lib.hid fun w => eq2 (parse_calls ⟨#[7, 0, 2, 97, 98]⟩ w (by decide)) (v' := .tuple #[.int .i64 7, .string ⟨#[97, 98]⟩, .int .i64 0]) (by kernel_rfl)
  have k3 := Lib.hid fun w => eq2 (parse_calls ⟨#[7, 0, 2, 97]⟩ w (by decide)) (v' := .tuple #[.int .i64 0, .string ⟨#[]⟩, .int .i64 14]) (by kernel_rfl)
  have k4 := Lib.hid fun w => eq2 (parse_calls ⟨#[7, 0, 2, 97, 98, 0]⟩ w (by decide)) (v' := .tuple #[.int .i64 0, .string ⟨#[]⟩, .int .i64 15]) (by kernel_rfl)
  have k5 := Lib.hid fun w => eq2 (split_calls ⟨#[7, 0, 2, 97, 98, 0]⟩ w (by decide)) (v' := .tuple #[.int .i64 7, .string ⟨#[97, 98]⟩, .string ⟨#[0]⟩, .int .i64 0]) (by kernel_rfl)
  have k6 := Lib.hid fun w => eq2 (count_calls ⟨#[7, 0, 2, 97, 98, 7, 0, 2, 97, 98]⟩ w (by decide)) (v' := .tuple #[.int .i64 2, .int .i64 0]) (by kernel_rfl)
  have k7 := Lib.hid fun w => eq2 (count_calls ⟨#[7, 0, 2, 97, 98, 0]⟩ w (by decide)) (v' := .tuple #[.int .i64 0, .int .i64 14]) (by kernel_rfl)
  have k8 := Lib.hid fun w => eq2 (count_calls ⟨#[]⟩ w (by decide)) (v' := .tuple #[.int .i64 0, .int .i64 0]) (by kernel_rfl)
  have k9 := Lib.hid fun w => eq2 (lay_calls 256 ⟨#[]⟩ w (by decide)) (v' := .tuple #[.string ⟨#[]⟩, .int .i64 2]) (by kernel_rfl)
  have k10 := Lib.hid fun w => eq2 (lay_calls (-1) ⟨#[]⟩ w (by decide)) (v' := .tuple #[.string ⟨#[]⟩, .int .i64 2]) (by kernel_rfl)
  go_enter Try.func11, Try.ntmps11
  go_wp2_with fail
  refine (k1.out _).mono ?_
  rintro e w1 ⟨rfl, hb1⟩
  go_wp2_with fail
  refine (k2.out _).mono ?_
  rintro e w2 ⟨rfl, hb2⟩
  go_wp2_with fail
  refine (k3.out _).mono ?_
  rintro e w3 ⟨rfl, hb3⟩
  go_wp2_with fail
  refine (k4.out _).mono ?_
  rintro e w4 ⟨rfl, hb4⟩
  go_wp2_with fail
  refine (k5.out _).mono ?_
  rintro e w5 ⟨rfl, hb5⟩
  go_wp2_with fail
  refine (k6.out _).mono ?_
  rintro e w6 ⟨rfl, hb6⟩
  go_wp2_with fail
  refine (k7.out _).mono ?_
  rintro e w7 ⟨rfl, hb7⟩
  go_wp2_with fail
  refine (k8.out _).mono ?_
  rintro e w8 ⟨rfl, hb8⟩
  go_wp2_with fail
  refine (k9.out _).mono ?_
  rintro e w9 ⟨rfl, hb9⟩
  go_wp2_with fail
  refine (k10.out _).mono ?_
  rintro e w10 ⟨rfl, hb10⟩
  go_wp2
  go_ret
  have t := fun {a b c : World} (h : Below a.heap.size a b) (k : Below b.heap.size b c) => h.trans (k.mono h.size)
  exact ⟨rfl, t (t (t (t (t (t (t (t (t hb1 hb2) hb3) hb4) hb5) hb6) hb7) hb8) hb9) hb10⟩

end Go.Proofs.Ytgkfmcmnlpapcaa
