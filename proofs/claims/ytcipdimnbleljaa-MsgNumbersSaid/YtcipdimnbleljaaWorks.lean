/-
  The laws of layer 18: works.
-/
import Derived.Test.YtcipdimnbleljaaRef
import Derived.Test.YtcipdimnbleljaaWkP
namespace Go.Proofs.Ytcipdimnbleljaa
open Go.RowKit
open Extern.Stop (cell)

theorem run_open (w : World) : (Instr.build 42 #[(0, .int .i64 4), (1, .int .i64 3), (2, .int .i64 1), (8, .int .u64 7), (9, .int .u64 9)]).run Try.prog w = .ok (.agg cOpen) w := by kernel_rfl
theorem run_out (w : World) : (Instr.build 40 #[(0, .int .i64 3), (1, .int .i64 (-1))]).run Try.prog w = .ok (.agg #[.int .i64 3, .int .i64 (-1), .int .u64 0]) w := by kernel_rfl
theorem run_res (w : World) : (Instr.build 42 #[(0, .int .i64 5), (10, .agg #[.int .i64 3, .int .i64 (-1), .int .u64 0])]).run Try.prog w = .ok (.agg cRes) w := by kernel_rfl
theorem run_call (w : World) : (Instr.build 42 #[(0, .int .i64 3), (1, .int .i64 2)]).run Try.prog w = .ok (.agg cCall) w := by kernel_rfl
theorem call_same (p : Option Addr) : alB (decM 3 ⟨#[2, 0]⟩ p) mCall = true := by
  show alB (decM 3 ⟨#[2, 0]⟩ none) mCall = true
  decide

set_option maxHeartbeats 2000000 in
set_option maxRecDepth 100000 in
theorem works_calls (w : World) : Calls Try.prog 13 #[] w fun e w' => e = .returned (.bool true) ∧ Below w.heap.size w w' := by
  have h1 := encode_calls cOpen mOpen w open_of (nil_marks _ _ rfl) open_rg
  rw [open_S, show encE mOpen = 0 from if_pos open_may] at h1
  have h2 := fun w => encode_calls cRes mRes w res_of (nil_marks _ _ rfl) res_rg
  rw [res_S, show encE mRes = 0 from if_pos res_may] at h2
  have h3 := fun w => encode_calls cCall mCall w call_of (nil_marks _ _ rfl) call_rg
  rw [call_S, show encE mCall = 0 from if_pos call_may] at h3
  have h4 := fun w => decode_calls ⟨#[3, 0, 2, 2, 0]⟩ w (by decide)
  have r1 := fun w => Lib.hid (refused_calls ⟨#[3, 0, 2, 2, 1]⟩ 14 w (by decide) ref_1 (by decide))
  have r2 := fun w => Lib.hid (refused_calls ⟨#[9, 0, 0]⟩ 15 w (by decide) ref_2 (by decide))
  have r3 := fun w => Lib.hid (refused_calls ⟨#[3, 0, 3, 2, 0, 0]⟩ 15 w (by decide) ref_3 (by decide))
  have H1 := Lib.hid h1
  have H2 := fun w => Lib.hid (h2 w)
  have H3 := fun w => Lib.hid (h3 w)
  have H4 := fun w => Lib.hid (h4 w)
  clear h1 h2 h3 h4
  go_enter Try.func13, Try.ntmps13
  go_wp2_with (first | (refine wpList_buildn_v rfl 42 _ rfl _ rfl (.agg cOpen) (run_open _) ?_))
  refine H1.out.mono ?_
  rintro e w1 ⟨rfl, hb1⟩
  go_wp2_with (first | (refine wpList_buildn_v rfl 40 _ rfl _ rfl (.agg #[.int .i64 3, .int .i64 (-1), .int .u64 0]) (run_out _) ?_) | (refine wpList_buildn_v rfl 42 _ rfl _ rfl (.agg cRes) (run_res _) ?_))
  refine (H2 _).out.mono ?_
  rintro e w2 ⟨rfl, hb2⟩
  replace hb2 := hb1.trans (hb2.mono hb1.size)
  go_wp2_with (first | (refine wpList_buildn_v rfl 42 _ rfl _ rfl (.agg cCall) (run_call _) ?_))
  refine (H3 _).out.mono ?_
  rintro e w3 ⟨rfl, hb3⟩
  replace hb3 := hb2.trans (hb3.mono hb2.size)
  go_wp2_with fail
  refine (H4 _).out.mono ?_
  rintro e w4 ⟨C, p, rfl, hb4, hM, hA⟩
  replace hb4 := hb3.trans (hb4.mono hb3.size)
  rw [call_D]
  rw [call_R] at hM hA
  have hnew := Lib.hid (show zero53.size = C.size by rw [hM.size]; rfl)
  have hone := Lib.hid (msg_one hM)
  have hsz := Lib.hid (msg_size C hM.size)
  have hld := Lib.hid (run_load_row (P := Try.prog) _ _ 42 C 42 _ (Blk.new w4 C 42) Try.underlying42 rfl (msg_size C hM.size))
  have hb5 := hb4.alloc hb4.size (.cells C 42)
  have hsm := same_calls C cCall _ mCall (w4.alloc (.cells C 42)) hM call_of (hA.mks.below ((Below.refl _ _).alloc (Nat.le_refl _) _)) (mks_none _)
  rw [call_same] at hsm
  have Hsm := Lib.hid hsm
  clear hM hA hsm
  go_wp2_with (first | (refine wpList_store_new rfl 42 _ _ rfl rfl rfl _ C _ rfl (by exact hnew.out) hone.out hsz.out ?_) | (refine wpList_load_v rfl 42 _ rfl ⟨w4.heap.size, 0, none⟩ rfl _ hld.out ?_) | (refine wpList_buildn_v rfl 42 _ rfl _ rfl (.agg cCall) (run_call _) ?_))
  refine Hsm.out.mono ?_
  rintro e w5 ⟨rfl, hb6⟩
  replace hb6 := hb5.trans (hb6.mono hb5.size)
  go_wp2_with fail
  refine (r1 _).out.mono ?_
  rintro e w6 ⟨rfl, hb7⟩
  replace hb7 := hb6.trans (hb7.mono hb6.size)
  go_wp2_with fail
  refine (r2 _).out.mono ?_
  rintro e w7 ⟨rfl, hb8⟩
  replace hb8 := hb7.trans (hb8.mono hb7.size)
  go_wp2_with fail
  refine (r3 _).out.mono ?_
  rintro e w8 ⟨rfl, hb9⟩
  replace hb9 := hb8.trans (hb9.mono hb8.size)
  go_wp2_with fail
  go_ret
  exact ⟨rfl, hb9⟩
end Go.Proofs.Ytcipdimnbleljaa
