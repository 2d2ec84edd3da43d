/-
  The document's side of layer 18: Encode; lays.
-/
import Derived.Test.YtcipdimnbleljaaRfG
namespace Go.Proofs.Ytcipdimnbleljaa
open Go.RowKit
open Extern.Stop (cell)

theorem be_two (n : Int) (h : 0 ≤ n ∧ n < 65536) : be n 2 = [n / 256, n % 256] := by
  show [n / 256 % 256, n % 256] = _
  rw [Int.emod_eq_of_lt (by omega) (by omega)]
theorem frm_lay {k : Int} {b : ByteArray} (hk : 0 ≤ k ∧ k < 256) (hb : b.size ≤ 65535) : frmS k b = strOfNums [k, (b.size : Int) / 256, (b.size : Int) % 256] ++ b := by
  unfold frmS
  rw [be_one k hk, be_two _ ⟨by omega, by omega⟩, ← strOfNums_append]
  rfl
theorem good_of {C : Array Value} {m : MV} {w : World} (hM : MsgOf C m) (hA : MarksAt w m) (hR : MsgRg m) (h : mayB m = true) : Good m := ⟨h, hR, hM.l15, hA.len⟩
theorem enc_frm {m : MV} (h : Good m) : encS m = frmS m.kind (bodyS m) ∧ 0 ≤ m.kind ∧ m.kind < 256 ∧ (bodyS m).size ≤ 65535 := by
  have hz := Frm.layE_zero h.lays
  exact ⟨by rw [h.encS, Frm.layS_ok h.lays, frm_lay ⟨hz.1, by omega⟩ hz.2.2], hz.1, by omega, hz.2.2⟩
section
variable {ρ : Operand → Value} {o : Oper} {w : World} {x y : Operand}
theorem run_callbody {C : Array Value} (ho : o.op = .call { callee := .value (.func 15), args := #[x], argTypes := #[42] }) (hx : ρ x = .agg C)
    (hf : ρ (.func 15) = .func (.func 15) #[] #[]) : (execOp ρ o).run Try.prog w = .ok (.enter 15 #[.agg C]) w := by
  unfold execOp
  simp only [ho]
  go_simp
theorem run_callfrm {k : Int} {s : ByteArray} (ho : o.op = .call { callee := .value (.func 14), args := #[x, y], argTypes := #[3, 9] }) (hx : ρ x = .int .i64 k) (hy : ρ y = .string s)
    (hf : ρ (.func 14) = .func (.func 14) #[] #[]) : (execOp ρ o).run Try.prog w = .ok (.enter 14 #[.int .i64 k, .string s]) w := by
  unfold execOp
  simp only [ho]
  go_simp
end

set_option maxHeartbeats 2000000 in
set_option maxRecDepth 100000 in
theorem enc_ref (C : Array Value) (m : MV) (w : World) (hM : MsgOf C m) (hA : MarksAt w m) (hR : MsgRg m) :
    Calls Try.prog 23 #[.agg C] w fun e w' => e = .returned (.tuple #[.string (encS m), .int .i64 (encE m)]) ∧ Below w.heap.size w w' := by
  have hld := Lib.hid (fun wx (h : Blk wx w.heap.size C 42) => run_load_row' (P := Try.prog) wx w.heap.size 42 C 42 _ h Try.underlying42 rfl (msg_size _ hM.size))
  obtain ⟨S, hS⟩ : ∃ S, encS m = S := ⟨_, rfl⟩
  obtain ⟨E, hE⟩ : ∃ E, encE m = E := ⟨_, rfl⟩
  rw [hS, hE]
  go_enter Try.func23, Try.ntmps23
  go_upto_region 1 with fail
  refine wp_world' (fun wx => ClY C m w wx) ⟨Blk.new w C _, new_below _ _, marks_below hA (new_below _ _)⟩ ?_
  rintro w0 hc0
  have hmy := Lib.hid (mayr_calls C m w0 hM hc0.ms hR)
  cases hb : mayB m with
  | false =>
    rw [hb] at hmy
    obtain rfl : S = ⟨#[]⟩ := by rw [← hS]; unfold encS; rw [if_neg (by rw [hb]; decide)]; rfl
    obtain rfl : E = 15 := by rw [← hE]; unfold encE; rw [if_neg (by rw [hb]; decide)]
    clear hS hE
    go_wp2_with (refine wpList_load_v rfl 42 _ rfl ⟨w.heap.size, 0, none⟩ rfl _ (hld.out _ hc0.b) ?_)
    refine hmy.out.mono ?_
    rintro e w1 ⟨rfl, hb1⟩
    go_wp2_with fail
    go_ret2
    exact ⟨rfl, (hc0.below hb1).low⟩
  | true =>
    rw [hb] at hmy
    have hG := good_of hM hA hR hb
    obtain ⟨e1, e2, e3, e4⟩ := enc_frm hG
    rw [e1] at hS
    obtain rfl : E = 0 := by rw [← hE, hG.encE]
    clear hE
    go_wp2_with (refine wpList_load_v rfl 42 _ rfl ⟨w.heap.size, 0, none⟩ rfl _ (hld.out _ hc0.b) ?_)
    refine hmy.out.mono ?_
    rintro e w1 ⟨rfl, hb1⟩
    have hc1 := hc0.below hb1
    have hfr := Lib.hid (fun w => frame_ref m.kind (bodyS m) w ⟨e2, by omega⟩ (by omega))
    rw [hS] at hfr
    clear hc0 hmy e1 hS
    go_upto_region 3 with fail
    refine wp_region_puts [] [(7, .pointer (some ⟨w.heap.size, 0, none⟩)), (8, .int .i64 m.kind), (9, .agg C), (10, .string (bodyS m)), (11, .string S), (2, .string S), (3, .int .i64 0)] (fun _ wx => ClY C m w wx) (by kernel_rfl) (by kernel_rfl) (by kernel_rfl) (by kernel_rfl) (by kernel_rfl) hc1.drew ?_ ?_
    · intro aF hAF
      have E1 : aF.eval (.tmp 1) = .pointer (some ⟨w.heap.size, 0, none⟩) := by rw [← hAF]; kernel_rfl
      have T7 : aF.tmps[7]? = some (.pointer (some ⟨w.heap.size, 0, none⟩)) := by rw [← hAF]; kernel_rfl
      have E7 : aF.eval (.tmp 7) = .pointer (some ⟨w.heap.size, 0, none⟩) := by rw [← hAF]; kernel_rfl
      have T8 : aF.tmps[8]? = some (.int .i64 m.kind) := by rw [← hAF]; kernel_rfl
      have E8 : aF.eval (.tmp 8) = .int .i64 m.kind := by rw [← hAF]; kernel_rfl
      have T9 : aF.tmps[9]? = some (.agg C) := by rw [← hAF]; kernel_rfl
      have E9 : aF.eval (.tmp 9) = .agg C := by rw [← hAF]; kernel_rfl
      have T10 : aF.tmps[10]? = some (.string (bodyS m)) := by rw [← hAF]; kernel_rfl
      have E10 : aF.eval (.tmp 10) = .string (bodyS m) := by rw [← hAF]; kernel_rfl
      have T11 : aF.tmps[11]? = some (.string S) := by rw [← hAF]; kernel_rfl
      have E11 : aF.eval (.tmp 11) = .string S := by rw [← hAF]; kernel_rfl
      have T2 : aF.tmps[2]? = some (.string S) := by rw [← hAF]; kernel_rfl
      have E2 : aF.eval (.tmp 2) = .string S := by rw [← hAF]; kernel_rfl
      have T3 : aF.tmps[3]? = some (.int .i64 0) := by rw [← hAF]; kernel_rfl
      have E3 : aF.eval (.tmp 3) = .int .i64 0 := by rw [← hAF]; kernel_rfl
      clear hAF
      refine ⟨?_, ?_, ?_, ?_, ?_, ?_, ?_, trivial⟩
      · exact opOk_quiet _ (by intro d hd _; cases hd; exact T7) rfl (by decide) fun _ w' hc => sv (run_fld 0 0 rfl E1 (fun w => by kernel_rfl)) hc
      · exact opOk_quiet _ (by intro d hd _; cases hd; exact T8) rfl (by decide) fun _ w' hc => sv (run_load1 rfl E7 (run_i64 (hc.b.cell hM.h0))) hc
      · exact opOk_quiet _ (by intro d hd _; cases hd; exact T9) rfl (by decide) fun _ w' hc => sv (run_load1 rfl E1 (hld.out _ hc.b)) hc
      · exact opOk_quiet _ (by intro d hd _; cases hd; exact T10) rfl (by decide) fun _ w' hc => sc (run_callbody rfl E9 rfl) ((body_calls C m w' hM hc.ms hG).mono fun e w'' h => ⟨h.1, hc.below h.2⟩)
      · exact opOk_quiet _ (by intro d hd _; cases hd; exact T11) rfl (by decide) fun _ w' hc => sc (run_callfrm rfl E8 E10 rfl) ((hfr.out w').mono fun e w'' h => ⟨h.1, hc.below h.2⟩)
      · exact opOk_quiet _ (by intro d hd _; cases hd; exact T2) rfl (by decide) fun _ w' hc => sv (run_asg rfl E11) hc
      · exact opOk_quiet _ (by intro d hd _; cases hd; exact T3) rfl (by decide) fun _ w' hc => sv (run_asg rfl rfl) hc
    · intro w9 hc9
      simp only [putAll, List.foldl_cons, List.foldl_nil, Act.put, List.setIfInBounds_toArray, List.set_cons_succ, List.set_cons_zero]
      go_wp2_with fail
      go_ret2
      exact ⟨rfl, hc9.low⟩

set_option maxHeartbeats 2000000 in
set_option maxRecDepth 100000 in
/-- a message is laid as the document says -/
theorem lays_calls (C : Array Value) (m : MV) (w : World) (hM : MsgOf C m) (hA : MarksAt w m) (hR : MsgRg m) :
    Calls Try.prog 11 #[.agg C] w fun e w' => e = .returned (.bool true) ∧ Below w.heap.size w w' := by
  have hld := Lib.hid (fun wx (h : Blk wx w.heap.size C 42) => run_load_row' (P := Try.prog) wx w.heap.size 42 C 42 _ h Try.underlying42 rfl (msg_size _ hM.size))
  go_enter Try.func11, Try.ntmps11
  go_upto_region 1 with fail
  refine wp_world' (fun wx => ClY C m w wx) ⟨Blk.new w C _, new_below _ _, marks_below hA (new_below _ _)⟩ ?_
  rintro w0 hc0
  have he := Lib.hid (encode_calls C m w0 hM hc0.ms hR)
  go_wp2_with (refine wpList_load_v rfl 42 _ rfl ⟨w.heap.size, 0, none⟩ rfl _ (hld.out _ hc0.b) ?_)
  refine he.out.mono ?_
  rintro e w1 ⟨rfl, hb1⟩
  have hc1 := hc0.below hb1
  have hr := Lib.hid (enc_ref C m w1 hM hc1.ms hR)
  clear he hc0
  go_wp2_with (refine wpList_load_v rfl 42 _ rfl ⟨w.heap.size, 0, none⟩ rfl _ (hld.out _ hc1.b) ?_)
  refine hr.out.mono ?_
  rintro e w2 ⟨rfl, hb2⟩
  have hc2 := hc1.below hb2
  clear hr hc1
  generalize encS m = S
  generalize encE m = E
  have q1 : (S.toList == S.toList) = true := by simp
  have q2 : (E == E) = true := by simp
  go_wp2_with fail
  go_ret
  exact ⟨rfl, hc2.low⟩
end Go.Proofs.Ytcipdimnbleljaa
