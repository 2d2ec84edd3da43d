/-
  The laws of layer 18: refused.
-/
import Derived.Test.YtcipdimnbleljaaDe
import Derived.Test.YtcipdimnbleljaaSame
namespace Go.Proofs.Ytcipdimnbleljaa
open Go.RowKit
open Extern.Stop (cell)

theorem wpList_buildn_v {P : Program} {ops : Array Oper} {rest : List Oper} {o : Oper} {a : Act} {w : World} {Q : Exit → Act → World → Prop} (hgd : Region.wanted o (yielded ops a.tmps) = true) (ty : TypeId) (parts : Array (Nat × Operand)) (ho : o.op = .build ty parts)
    (vs : Array (Nat × Value)) (hp : (parts.map fun (i, x) => (i, a.eval x)) = vs) (v : Value) (hrun : (Instr.build ty vs).run P w = .ok v w) (h : wpList P ops Q rest (a.put o.dst v) w) : wpList P ops Q (o :: rest) a w :=
  wpList_v hgd v (by unfold execOp; simp only [ho, hp, Sem.run_bind, hrun, Sem.run_pure, Result.andThen_ok]) h
theorem run_load_row {P : Program} (w : World) (g : Nat) (ty : TypeId) (C : Array Value) (t : TypeId) (d : TypeDesc) (hB : Blk w g C t) (hu : P.underlying ty = some d) (hd : (match d with | .struct _ | .array _ _ => true | _ => false) = true)
    (hi : (P.info? ty).map (·.size) = some C.size) : (loadVar ty ⟨g, 0, none⟩).run P w = .ok (.agg C) w := run_loadVar_row w g t ty C (0, 0) d hB hu hd hi
theorem mks_none (w : World) : MksAt w none [] := ⟨fun _ => rfl, (fun x hx => by cases hx), by show 0 ≤ _; omega, (fun a ha => by cases ha)⟩
theorem decR_no {s : ByteArray} {e : Int} (h : decE s = e) (h0 : e ≠ 0) (p : Option Addr) : decR s p = zeroM := by unfold decR; rw [if_neg (by rw [h]; exact h0)]
theorem zero_same : alB zeroM zeroM = true := by decide

set_option maxHeartbeats 1000000 in
set_option maxRecDepth 100000 in
theorem refused_calls (s : ByteArray) (x : Int) (w : World) (hs : s.size ≤ 140737488351232) (hE : decE s = x) (h0 : x ≠ 0) :
    Calls Try.prog 20 #[.string s, .int .i64 x] w fun e w' => e = .returned (.bool true) ∧ Below w.heap.size w w' := by
  have hd := Lib.hid (decode_calls s w hs)
  have HE := Lib.hid hE
  have HR := Lib.hid (decR_no hE h0)
  clear hE h0
  go_enter Try.func20, Try.ntmps20
  go_wp2_with fail
  refine hd.out.mono ?_
  rintro e w1 ⟨C, p, rfl, hb1, hM, hA⟩
  rw [HE.out]
  rw [HR.out p] at hM hA
  have hnew := Lib.hid (show zero53.size = C.size by rw [hM.size]; rfl)
  have hone := Lib.hid (msg_one hM)
  have hsz := Lib.hid (msg_size C hM.size)
  have hld := Lib.hid (run_load_row (P := Try.prog) _ _ 42 C 42 _ (Blk.new w1 C 42) Try.underlying42 rfl (msg_size C hM.size))
  have hb2 := hb1.alloc hb1.size (.cells C 42)
  have hsm := same_calls C zero53 zeroM zeroM (w1.alloc (.cells C 42)) hM zero_of (mks_none _) (mks_none _)
  rw [zero_same] at hsm
  have Hsm := Lib.hid hsm
  clear hM hA hsm
  go_wp2_with (first | (refine wpList_store_new rfl 42 _ _ rfl rfl rfl _ C _ rfl (by exact hnew.out) hone.out hsz.out ?_) | (refine wpList_load_v rfl 42 _ rfl ⟨w1.heap.size, 0, none⟩ rfl _ hld.out ?_) | (refine wpList_build_v rfl 42 rfl _ (run_zero _) ?_))
  refine Hsm.out.mono ?_
  rintro e w2 ⟨rfl, hb3⟩
  go_wp2_with fail
  go_ret
  exact ⟨rfl, hb2.trans (hb3.mono hb2.size)⟩
end Go.Proofs.Ytcipdimnbleljaa
