/-
  The examples of chapter 18, as plain values.
  The laws of layer 18: refused.
  The laws of layer 18: works.
-/
import Derived.Test.YtcipdimnbleljaaDe
import Derived.Test.YtcipdimnbleljaaSame
namespace Go.Proofs.Ytcipdimnbleljaa
open Go.RowKit
open Extern.Stop (cell)

def mOpen : MV := { zeroM with kind := 4, round := 3, carrier := 1, bid := 7, nonce := 9 }
def mRes : MV := { zeroM with kind := 5, state := 3, winner := -1 }
def mCall : MV := { zeroM with kind := 3, round := 2 }
def cOpen : Array Value := ((((zero53.setIfInBounds 0 (.int .i64 4)).setIfInBounds 1 (.int .i64 3)).setIfInBounds 2 (.int .i64 1)).setIfInBounds 48 (.int .u64 7)).setIfInBounds 49 (.int .u64 9)
def cRes : Array Value := ((zero53.setIfInBounds 0 (.int .i64 5)).setIfInBounds 50 (.int .i64 3)).setIfInBounds 51 (.int .i64 (-1))
def cCall : Array Value := (zero53.setIfInBounds 0 (.int .i64 3)).setIfInBounds 1 (.int .i64 2)
theorem open_of : MsgOf cOpen mOpen := by
  refine ⟨rfl, rfl, rfl, rfl, rfl, rfl, ?_, ?_, rfl, rfl, rfl, rfl, rfl, rfl, rfl⟩
  · intro i hi
    unfold cOpen
    repeat rw [set_ne (by omega)]
    exact zero_of.h5 i hi
  · intro i hi
    unfold cOpen
    repeat rw [set_ne (by omega)]
    exact zero_of.h15 i hi
theorem res_of : MsgOf cRes mRes := by
  refine ⟨rfl, rfl, rfl, rfl, rfl, rfl, ?_, ?_, rfl, rfl, rfl, rfl, rfl, rfl, rfl⟩
  · intro i hi
    unfold cRes
    repeat rw [set_ne (by omega)]
    exact zero_of.h5 i hi
  · intro i hi
    unfold cRes
    repeat rw [set_ne (by omega)]
    exact zero_of.h15 i hi
theorem call_of : MsgOf cCall mCall := by
  refine ⟨rfl, rfl, rfl, rfl, rfl, rfl, ?_, ?_, rfl, rfl, rfl, rfl, rfl, rfl, rfl⟩
  · intro i hi
    unfold cCall
    repeat rw [set_ne (by omega)]
    exact zero_of.h5 i hi
  · intro i hi
    unfold cCall
    repeat rw [set_ne (by omega)]
    exact zero_of.h15 i hi
theorem i64_lit (n : Int) (h : -9223372036854775808 ≤ n ∧ n < 9223372036854775808) : I64 n := h
theorem open_rg : MsgRg mOpen := by
  refine ⟨?_, ?_, ?_, ?_, ?_, fun _ _ => rg0, (fun x hx => by cases hx), ?_, ?_, ?_, ?_, ?_⟩ <;> (first | exact rg0 | exact ug0 | (constructor <;> decide))
theorem res_rg : MsgRg mRes := by
  refine ⟨?_, ?_, ?_, ?_, ?_, fun _ _ => rg0, (fun x hx => by cases hx), ?_, ?_, ?_, ?_, ?_⟩ <;> (first | exact rg0 | exact ug0 | (constructor <;> decide))
theorem call_rg : MsgRg mCall := by
  refine ⟨?_, ?_, ?_, ?_, ?_, fun _ _ => rg0, (fun x hx => by cases hx), ?_, ?_, ?_, ?_, ?_⟩ <;> (first | exact rg0 | exact ug0 | (constructor <;> decide))
theorem nil_marks (m : MV) (w : World) (h : m.ms = []) : MarksAt w m := ⟨fun _ => h, (fun x hx => by rw [h] at hx; cases hx), by rw [h]; show 0 ≤ _; omega, (fun a ha j v hv => by rw [h] at hv; simp [mkCells] at hv)⟩
theorem open_may : mayB mOpen = true := by decide
theorem res_may : mayB mRes = true := by decide
theorem call_may : mayB mCall = true := by decide
theorem open_S : encS mOpen = ⟨#[4, 0, 18, 3, 1, 0, 0, 0, 0, 0, 0, 0, 7, 0, 0, 0, 0, 0, 0, 0, 9]⟩ := by decide
theorem res_S : encS mRes = ⟨#[5, 0, 11, 0, 3, 0, 0, 0, 0, 0, 0, 0, 0, 0]⟩ := by decide
theorem call_S : encS mCall = ⟨#[3, 0, 2, 2, 0]⟩ := by decide
theorem call_D : decE ⟨#[3, 0, 2, 2, 0]⟩ = 0 := by decide
theorem call_R (p : Option Addr) : decR ⟨#[3, 0, 2, 2, 0]⟩ p = decM 3 ⟨#[2, 0]⟩ p := by
  have e : Frm.parB ⟨#[3, 0, 2, 2, 0]⟩ = ⟨#[2, 0]⟩ := by decide
  unfold decR
  rw [if_pos call_D, e]
  rfl
theorem ref_1 : decE ⟨#[3, 0, 2, 2, 1]⟩ = 14 := by decide
theorem ref_2 : decE ⟨#[9, 0, 0]⟩ = 15 := by decide
theorem ref_3 : decE ⟨#[3, 0, 3, 2, 0, 0]⟩ = 15 := by decide
end Go.Proofs.Ytcipdimnbleljaa
namespace Go.Proofs.Ytcipdimnbleljaa
open Go.RowKit
open Extern.Stop (cell)

theorem wpList_buildn_v {P : Program} {ops : Array Oper} {rest : List Oper} {o : Oper} {a : Act} {w : World} {Q : Exit → Act → World → Prop} (hgd : Region.wanted o (yielded ops a.tmps) = true) (ty : TypeId) (parts : Array (Nat × Operand)) (ho : o.op = .build ty parts)
    (vs : Array (Nat × Value)) (hp : (parts.map fun (i, x) => (i, a.eval x)) = vs) (v : Value) (hrun : (Instr.build ty vs).run P w = .ok v w) (h : wpList P ops Q rest (a.put o.dst v) w) : wpList P ops Q (o :: rest) a w :=
  wpList_v hgd v (by unfold execOp; simp only [ho, hp, Sem.run_bind, hrun, Sem.run_pure, Result.andThen_ok]) h
theorem run_load_row {P : Program} (w : World) (g : Nat) (ty : TypeId) (C : Array Value) (t : TypeId) (d : TypeDesc) (hB : Blk w g C t) (hu : P.underlying ty = some d) (hd : (match d with | .struct _ | .array _ _ => true | _ => false) = true)
    (hi : (P.info? ty).map (·.size) = some C.size) : (loadVar ty ⟨g, 0, none⟩).run P w = .ok (.agg C) w := run_loadVar_row w g t ty C (0, 0) d hB hu hd hi
theorem mks_none (w : World) : MksAt w none [] := ⟨fun _ => rfl, (fun x hx => by cases hx), by show 0 ≤ _; omega, (fun a ha => by cases ha)⟩
theorem decR_no {s : ByteArray} {e : Int} (h : decE s = e) (h0 : e ≠ 0) (p : Option Addr) : decR s p = zeroM := by unfold decR; rw [if_neg (by rw [h]; exact h0)]
theorem zero_same : alB zeroM zeroM = true := by decide

set_option maxHeartbeats 1000000 in
set_option maxRecDepth 100000 in
theorem refused_calls (s : ByteArray) (x : Int) (w : World) (hs : s.size ≤ 140737488351232) (hE : decE s = x) (h0 : x ≠ 0) :
    Calls Try.prog 20 #[.string s, .int .i64 x] w fun e w' => e = .returned (.bool true) ∧ Below w.heap.size w w' := by
  have hd := Lib.hid (decode_calls s w hs)
  have HE := Lib.hid hE
  have HR := Lib.hid (decR_no hE h0)
  clear hE h0
  go_enter Try.func20, Try.ntmps20
  go_wp2_with fail
  refine hd.out.mono ?_
  rintro e w1 ⟨C, p, rfl, hb1, hM, hA, _⟩
  rw [HE.out]
  rw [HR.out p] at hM hA
  have hnew := Lib.hid (show zero53.size = C.size by rw [hM.size]; rfl)
  have hone := Lib.hid (msg_one hM)
  have hsz := Lib.hid (msg_size C hM.size)
  have hld := Lib.hid (run_load_row (P := Try.prog) _ _ 42 C 42 _ (Blk.new w1 C 42) Try.underlying42 rfl (msg_size C hM.size))
  have hb2 := hb1.alloc hb1.size (.cells C 42)
  have hsm := same_calls C zero53 zeroM zeroM (w1.alloc (.cells C 42)) hM zero_of (mks_none _) (mks_none _)
  rw [zero_same] at hsm
  have Hsm := Lib.hid hsm
  clear hM hA hsm
  go_wp2_with (first | (refine wpList_store_new rfl 42 _ _ rfl rfl rfl _ C _ rfl (by exact hnew.out) hone.out hsz.out ?_) | (refine wpList_load_v rfl 42 _ rfl ⟨w1.heap.size, 0, none⟩ rfl _ hld.out ?_) | (refine wpList_build_v rfl 42 rfl _ (run_zero _) ?_))
  refine Hsm.out.mono ?_
  rintro e w2 ⟨rfl, hb3⟩
  go_wp2_with fail
  go_ret
  exact ⟨rfl, hb2.trans (hb3.mono hb2.size)⟩
end Go.Proofs.Ytcipdimnbleljaa
namespace Go.Proofs.Ytcipdimnbleljaa
open Go.RowKit
open Extern.Stop (cell)

theorem run_open (w : World) : (Instr.build 42 #[(0, .int .i64 4), (1, .int .i64 3), (2, .int .i64 1), (8, .int .u64 7), (9, .int .u64 9)]).run Try.prog w = .ok (.agg cOpen) w := by kernel_rfl
theorem run_out (w : World) : (Instr.build 40 #[(0, .int .i64 3), (1, .int .i64 (-1))]).run Try.prog w = .ok (.agg #[.int .i64 3, .int .i64 (-1), .int .u64 0]) w := by kernel_rfl
theorem run_res (w : World) : (Instr.build 42 #[(0, .int .i64 5), (10, .agg #[.int .i64 3, .int .i64 (-1), .int .u64 0])]).run Try.prog w = .ok (.agg cRes) w := by kernel_rfl
theorem run_call (w : World) : (Instr.build 42 #[(0, .int .i64 3), (1, .int .i64 2)]).run Try.prog w = .ok (.agg cCall) w := by kernel_rfl
theorem call_same (p : Option Addr) : alB (decM 3 ⟨#[2, 0]⟩ p) mCall = true := by
  show alB (decM 3 ⟨#[2, 0]⟩ none) mCall = true
  decide

set_option maxHeartbeats 2000000 in
set_option maxRecDepth 100000 in
theorem works_calls (w : World) : Calls Try.prog 13 #[] w fun e w' => e = .returned (.bool true) ∧ Below w.heap.size w w' := by
  have h1 := encode_calls cOpen mOpen w open_of (nil_marks _ _ rfl) open_rg
  rw [open_S, show encE mOpen = 0 from if_pos open_may] at h1
  have h2 := fun w => encode_calls cRes mRes w res_of (nil_marks _ _ rfl) res_rg
  rw [res_S, show encE mRes = 0 from if_pos res_may] at h2
  have h3 := fun w => encode_calls cCall mCall w call_of (nil_marks _ _ rfl) call_rg
  rw [call_S, show encE mCall = 0 from if_pos call_may] at h3
  have h4 := fun w => decode_calls ⟨#[3, 0, 2, 2, 0]⟩ w (by decide)
  have r1 := fun w => Lib.hid (refused_calls ⟨#[3, 0, 2, 2, 1]⟩ 14 w (by decide) ref_1 (by decide))
  have r2 := fun w => Lib.hid (refused_calls ⟨#[9, 0, 0]⟩ 15 w (by decide) ref_2 (by decide))
  have r3 := fun w => Lib.hid (refused_calls ⟨#[3, 0, 3, 2, 0, 0]⟩ 15 w (by decide) ref_3 (by decide))
  have H1 := Lib.hid h1
  have H2 := fun w => Lib.hid (h2 w)
  have H3 := fun w => Lib.hid (h3 w)
  have H4 := fun w => Lib.hid (h4 w)
  clear h1 h2 h3 h4
  go_enter Try.func13, Try.ntmps13
  go_wp2_with (first | (refine wpList_buildn_v rfl 42 _ rfl _ rfl (.agg cOpen) (run_open _) ?_))
  refine H1.out.mono ?_
  rintro e w1 ⟨rfl, hb1⟩
  go_wp2_with (first | (refine wpList_buildn_v rfl 40 _ rfl _ rfl (.agg #[.int .i64 3, .int .i64 (-1), .int .u64 0]) (run_out _) ?_) | (refine wpList_buildn_v rfl 42 _ rfl _ rfl (.agg cRes) (run_res _) ?_))
  refine (H2 _).out.mono ?_
  rintro e w2 ⟨rfl, hb2⟩
  replace hb2 := hb1.trans (hb2.mono hb1.size)
  go_wp2_with (first | (refine wpList_buildn_v rfl 42 _ rfl _ rfl (.agg cCall) (run_call _) ?_))
  refine (H3 _).out.mono ?_
  rintro e w3 ⟨rfl, hb3⟩
  replace hb3 := hb2.trans (hb3.mono hb2.size)
  go_wp2_with fail
  refine (H4 _).out.mono ?_
  rintro e w4 ⟨C, p, rfl, hb4, hM, hA, _⟩
  replace hb4 := hb3.trans (hb4.mono hb3.size)
  rw [call_D]
  rw [call_R] at hM hA
  have hnew := Lib.hid (show zero53.size = C.size by rw [hM.size]; rfl)
  have hone := Lib.hid (msg_one hM)
  have hsz := Lib.hid (msg_size C hM.size)
  have hld := Lib.hid (run_load_row (P := Try.prog) _ _ 42 C 42 _ (Blk.new w4 C 42) Try.underlying42 rfl (msg_size C hM.size))
  have hb5 := hb4.alloc hb4.size (.cells C 42)
  have hsm := same_calls C cCall _ mCall (w4.alloc (.cells C 42)) hM call_of (hA.mks.below ((Below.refl _ _).alloc (Nat.le_refl _) _)) (mks_none _)
  rw [call_same] at hsm
  have Hsm := Lib.hid hsm
  clear hM hA hsm
  go_wp2_with (first | (refine wpList_store_new rfl 42 _ _ rfl rfl rfl _ C _ rfl (by exact hnew.out) hone.out hsz.out ?_) | (refine wpList_load_v rfl 42 _ rfl ⟨w4.heap.size, 0, none⟩ rfl _ hld.out ?_) | (refine wpList_buildn_v rfl 42 _ rfl _ rfl (.agg cCall) (run_call _) ?_))
  refine Hsm.out.mono ?_
  rintro e w5 ⟨rfl, hb6⟩
  replace hb6 := hb5.trans (hb6.mono hb5.size)
  go_wp2_with fail
  refine (r1 _).out.mono ?_
  rintro e w6 ⟨rfl, hb7⟩
  replace hb7 := hb6.trans (hb7.mono hb6.size)
  go_wp2_with fail
  refine (r2 _).out.mono ?_
  rintro e w7 ⟨rfl, hb8⟩
  replace hb8 := hb7.trans (hb8.mono hb7.size)
  go_wp2_with fail
  refine (r3 _).out.mono ?_
  rintro e w8 ⟨rfl, hb9⟩
  replace hb9 := hb8.trans (hb9.mono hb8.size)
  go_wp2_with fail
  go_ret
  exact ⟨rfl, hb9⟩
end Go.Proofs.Ytcipdimnbleljaa
