/-
  The document's side of layer 18: a draft's message, of kind 1.
-/
import Derived.Test.YtcipdimnbleljaaDmQ
import Derived.BigRegion
namespace Go.Proofs.Ytcipdimnbleljaa
open Go.RowKit
open Extern.Stop (cell)

theorem run_callpl {ρ : Operand → Value} {o : Oper} {w : World} {x : Operand} {n : Int} (ho : o.op = .call { callee := .value (.func 21), args := #[x], argTypes := #[22] }) (hx : ρ x = .int .u16 n)
    (hf : ρ (.func 21) = .func (.func 21) #[] #[] := by rfl) :
    (execOp ρ o).run Try.prog w = .ok (.enter 21 #[.int .u16 n]) w := by
  unfold execOp
  simp only [ho]
  go_simp
theorem run_move {ρ : Operand → Value} {o : Oper} {w : World} {x : Operand} {v : Value} (ho : o.op = .move x) (hx : ρ x = v) : (execOp ρ o).run Try.prog w = .ok (.value v) w := by
  unfold execOp; simp only [ho, hx, Sem.run_pure]
theorem run_add {ρ : Operand → Value} {o : Oper} {w : World} {x y : Operand} {m n : Int} (ho : o.op = .binOp .add 3 x y 3) (hx : ρ x = .int .i64 m) (hy : ρ y = .int .i64 n) (hb : -9223372036854775808 ≤ m + n ∧ m + n ≤ 9223372036854775807) :
    (execOp ρ o).run Try.prog w = .ok (.value (.int .i64 (m + n))) w := by
  have h4 : wrap64 (m + n) = m + n := IntWalk.wrap64_in _ hb
  have h5 : IntKind.i64.wrap (m + n) = m + n := IntWalk.i64_in _ hb
  unfold execOp
  simp only [ho, hx, hy]
  go_simp
theorem run_win {ρ : Operand → Value} {o : Oper} {w : World} {x y : Operand} {m n : Int} (ho : o.op = .build 33 #[(0, x), (1, y)]) (hx : ρ x = .int .i64 m) (hy : ρ y = .int .i64 n) :
    (execOp ρ o).run Try.prog w = .ok (.value (.agg #[.int .i64 m, .int .i64 n])) w := by
  have h : (Instr.build 33 #[(0, .int .i64 m), (1, .int .i64 n)]).run Try.prog w = .ok (.agg #[.int .i64 m, .int .i64 n]) w := by kernel_rfl
  unfold execOp
  simp only [ho, List.map_toArray, List.map_cons, List.map_nil, hx, hy, Sem.run_bind, h, Result.andThen_ok, Sem.run_pure]
theorem run_req {ρ : Operand → Value} {o : Oper} {w : World} {a b c d e f : Operand} {x0 x1 x2 x3 x4 x5 x6 x7 x8 x9 : Int} (ho : o.op = .build 35 #[(0, a), (1, b), (2, c), (3, d), (4, e), (5, f)])
    (ha : ρ a = .agg #[.int .i64 x0, .int .i64 x1]) (hb : ρ b = .agg #[.int .i64 x2, .int .i64 x3]) (hc : ρ c = .agg #[.int .i64 x4, .int .i64 x5]) (hd : ρ d = .agg #[.int .i64 x6, .int .i64 x7]) (he : ρ e = .int .i64 x8) (hf : ρ f = .int .i64 x9) :
    (execOp ρ o).run Try.prog w = .ok (.value (.agg #[.int .i64 x0, .int .i64 x1, .int .i64 x2, .int .i64 x3, .int .i64 x4, .int .i64 x5, .int .i64 x6, .int .i64 x7, .int .i64 x8, .int .i64 x9])) w := by
  have h : (Instr.build 35 #[(0, .agg #[.int .i64 x0, .int .i64 x1]), (1, .agg #[.int .i64 x2, .int .i64 x3]), (2, .agg #[.int .i64 x4, .int .i64 x5]), (3, .agg #[.int .i64 x6, .int .i64 x7]), (4, .int .i64 x8), (5, .int .i64 x9)]).run Try.prog w
      = .ok (.agg #[.int .i64 x0, .int .i64 x1, .int .i64 x2, .int .i64 x3, .int .i64 x4, .int .i64 x5, .int .i64 x6, .int .i64 x7, .int .i64 x8, .int .i64 x9]) w := by kernel_rfl
  unfold execOp
  simp only [ho, List.map_toArray, List.map_cons, List.map_nil, ha, hb, hc, hd, he, hf, Sem.run_bind, h, Result.andThen_ok, Sem.run_pure]
theorem row_d1 (d : DV) (hk : kindD d = 1) {D : Array Value} (hs : D.size = 53) (hg : ∀ i : Nat, D[i]? = if 5 ≤ i ∧ i < 5 + 10 then (#[.int .i64 (d.n 2 % 1024), .int .i64 (d.n 2 / 64), .int .i64 (d.n 3 % 1024), .int .i64 (d.n 3 / 64), .int .i64 (d.n 4 * 9), .int .i64 (d.n 4 * 9 + d.n 6 % 999), .int .i64 (d.n 5 * 7), .int .i64 (d.n 5 * 7 + d.n 7 % 999), .int .i64 (1 + d.n 6 % 1000), .int .i64 (d.n 7 % 1001)] : Array Value)[i - 5]? else (((two (kindD d) (d.n 0 % 16)).setIfInBounds 3 (.int .i64 (d.n 1 % 64))).setIfInBounds 4 (.int .i64 (d.big 0 % 16777217)))[i]?) : MsgOf D (msgD d none 0) := by
  have h := two_of (kindD d) (d.n 0 % 16)
  have hz := h.size
  refine ⟨hs, ?_, ?_, ?_, ?_, ?_, ?_, ?_, ?_, ?_, ?_, ?_, ?_, ?_, ?_⟩
  · rw [hg, if_neg (by omega), set_ne (by omega), set_ne (by omega)]; exact h.h0
  · rw [hg, if_neg (by omega), set_ne (by omega), set_ne (by omega)]; exact h.h1
  · rw [hg, if_neg (by omega), set_ne (by omega), set_ne (by omega), h.h2]; simp [msgD, hk, zeroM]
  · rw [hg, if_neg (by omega), set_ne (by omega), set_eq (by omega)]; simp [msgD, hk]
  · rw [hg, if_neg (by omega), set_eq (by simp only [Array.size_setIfInBounds]; omega)]; simp [msgD, hk]
  · intro i hi
    rw [hg, if_pos (by omega), show 5 + i - 5 = i by omega, show (msgD d none 0).rq i = rqD d i by simp [msgD, hk]]
    match i, hi with
    | 0, _ => rfl
    | 1, _ => rfl
    | 2, _ => rfl
    | 3, _ => rfl
    | 4, _ => rfl
    | 5, _ => rfl
    | 6, _ => rfl
    | 7, _ => rfl
    | 8, _ => rfl
    | 9, _ => rfl
    | i + 10, hi => exact absurd hi (by omega)
  · intro i hi
    rw [hg, if_neg (by omega), set_ne (by omega), set_ne (by omega), h.h15 i hi]; simp [msgD, hk, zeroM]
  · rw [show (msgD d none 0).dg = dg0 by simp [msgD, hk]]; decide
  · rw [hg, if_neg (by omega), set_ne (by omega), set_ne (by omega), h.h47]; simp [msgD, hk, zeroM]
  · rw [hg, if_neg (by omega), set_ne (by omega), set_ne (by omega), h.h48]; simp [msgD, hk, zeroM]
  · rw [hg, if_neg (by omega), set_ne (by omega), set_ne (by omega), h.h49]; simp [msgD, hk, zeroM]
  · rw [hg, if_neg (by omega), set_ne (by omega), set_ne (by omega), h.h50]; simp [msgD, hk, zeroM]
  · rw [hg, if_neg (by omega), set_ne (by omega), set_ne (by omega), h.h51]; simp [msgD, hk, zeroM]
  · rw [hg, if_neg (by omega), set_ne (by omega), set_ne (by omega), h.h52]; simp [msgD, hk, zeroM]
def ClD1 (NR Ma Mb : Array Value) (w : World) (mb : Nat) (k : Nat) (w' : World) : Prop :=
  Blk w' mb (if k = 0 then Ma else Mb) 42 ∧ Blk w' (w.heap.size + 1) zero53 42 ∧ Blk w' (w.heap.size + 2) NR 23 ∧ Below w.heap.size w w'
theorem ClD1.below {NR Ma Mb : Array Value} {w : World} {mb k : Nat} {w' w'' : World} (h : ClD1 NR Ma Mb w mb k w') (hb : Below w'.heap.size w' w'') : ClD1 NR Ma Mb w mb k w'' :=
  ⟨h.1.mod ((Mod.refl (fun _ => False) _).after hb) (fun h => h), h.2.1.mod ((Mod.refl (fun _ => False) _).after hb) (fun h => h), h.2.2.1.mod ((Mod.refl (fun _ => False) _).after hb) (fun h => h), h.2.2.2.trans (hb.mono h.2.2.2.size)⟩
set_option maxHeartbeats 2000000 in
set_option maxRecDepth 100000 in
theorem draft1_calls (C : Array Value) (d : DV) (w : World) (hC : DraftOf C d) (hR : DraftRg d) (hk : kindD d = 1) : Calls Try.prog 10 #[.agg C] w (DrPost d w) := by
  have hc0 := hC.size
  have hkd := hR.kind
  have r0 := hR.n 0 (by omega)
  have r1 := hR.n 1 (by omega)
  have g0 := hC.h0
  have HN := Lib.hid (nrow_get hC)
  have hns : (C.extract 1 (1 + 8)).size = 8 := by simp; omega
  obtain ⟨NR, hNR⟩ : ∃ NR, C.extract 1 (1 + 8) = NR := ⟨_, rfl⟩
  rw [hNR] at HN hns
  have hone : ∀ v ∈ NR.toList, v.oneCell' = true := by
    intro v hv
    obtain ⟨i, hi, rfl⟩ := List.getElem_of_mem hv
    have hi' : i < 8 := by rw [← hns]; simpa using hi
    have := HN.out i hi'
    rw [Array.getElem?_eq_getElem (by omega)] at this
    have e : NR.toList[i] = .int .u16 (d.n i) := by simpa using this
    rw [e]; rfl
  go_enter Try.func10, Try.ntmps10
  go_upto_region 1 with fail
  refine wp_world' (fun wx => Blk wx w.heap.size C 28 ∧ Blk wx (w.heap.size + 1) zero53 42 ∧ wx.heap.size = w.heap.size + 2 ∧ Below w.heap.size w wx)
    ⟨(Blk.new w C _).alloc _, Blk.new' w _ _ _, by simp, ((Below.refl _ _).alloc (Nat.le_refl _) _).alloc (by simp) _⟩ ?_
  rintro w0 ⟨hB, hZ, hz, hb⟩
  have hld := Lib.hid (load_part (P := Try.prog) w0 _ C _ hB 1 8 (by omega) 23 _ Try.underlying23 rfl (by kernel_rfl))
  rw [hNR] at hld
  have hsn := Lib.hid (show (#[.int .u16 0, .int .u16 0, .int .u16 0, .int .u16 0, .int .u16 0, .int .u16 0, .int .u16 0, .int .u16 0] : Array Value).size = NR.size by rw [hns]; rfl)
  have Hone := Lib.hid hone
  have hzn := Lib.hid (show Blk (w0.alloc (.cells #[.int .u16 0, .int .u16 0, .int .u16 0, .int .u16 0, .int .u16 0, .int .u16 0, .int .u16 0, .int .u16 0] 23)) (w.heap.size + 2) #[.int .u16 0, .int .u16 0, .int .u16 0, .int .u16 0, .int .u16 0, .int .u16 0, .int .u16 0, .int .u16 0] 23 by rw [← hz]; exact Blk.new _ _ _)
  have hin := Lib.hid (show (Try.prog.info? 23).map (·.size) = some NR.size by rw [hns]; kernel_rfl)
  have HB := Lib.hid hB
  have HZ := Lib.hid hZ
  clear hone hns hNR hB hZ
  go_upto_region 2 with (first | (refine wpList_load_v rfl 23 _ rfl ⟨w.heap.size, 1, none⟩ rfl _ hld.out ?_) | (refine wpList_store_row2 rfl 23 _ _ rfl rfl (w.heap.size + 2) rfl _ NR 23 hzn.out rfl (by exact hsn.out) Hone.out hin.out ?_; intro w1 hN hmN))
  have hB1 := (HB.out.alloc (.cells #[.int .u16 0, .int .u16 0, .int .u16 0, .int .u16 0, .int .u16 0, .int .u16 0, .int .u16 0, .int .u16 0] 23)).mod hmN (by omega)
  have hZ1 := (HZ.out.alloc (.cells #[.int .u16 0, .int .u16 0, .int .u16 0, .int .u16 0, .int .u16 0, .int .u16 0, .int .u16 0, .int .u16 0] 23)).mod hmN (by omega)
  have hb1 := (hb.alloc hb.size (.cells #[.int .u16 0, .int .u16 0, .int .u16 0, .int .u16 0, .int .u16 0, .int .u16 0, .int .u16 0, .int .u16 0] 23)).trans (hmN.below (by simp; have := hb.size; omega) (by rintro x rfl; omega))
  have hz1 : w.heap.size + 3 ≤ w1.heap.size := by have := hmN.size; simp at this; omega
  clear HB HZ hb hld hzn hmN hz
  have hB := hB1
  have hZ := hZ1
  have hb := hb1
  clear hB1 hZ1 hb1
  have k0 := hB.cell g0
  have kn0 := hN.cell (HN.out 0 (by omega))
  have HB := Lib.hid hB
  have HZ := Lib.hid hZ
  have HN1 := Lib.hid hN
  have hk1 : 1 + d.kind % 5 = kindD d := rfl
  have q5 : 0 ≤ d.kind % 5 ∧ d.kind % 5 < 5 := by omega
  have q6 : 0 ≤ d.n 0 % 16 ∧ d.n 0 % 16 < 16 := by omega
  have hzM := Lib.hid (show Blk (w1.alloc (.cells zero53 42)) w1.heap.size zero53 42 from Blk.new _ _ _)
  have hs0 := Lib.hid (show zero53.size = ((zero53.setIfInBounds 0 (.int .i64 (1 + d.kind % 5))).setIfInBounds 1 (.int .i64 (d.n 0 % 16))).size by simp)
  have hs1 := Lib.hid (two_one (1 + d.kind % 5) (d.n 0 % 16))
  have hs2 := Lib.hid (msg_size ((zero53.setIfInBounds 0 (.int .i64 (1 + d.kind % 5))).setIfInBounds 1 (.int .i64 (d.n 0 % 16))) (by simp; rfl))
  have hru := Lib.hid (run_two (1 + d.kind % 5) (d.n 0 % 16))
  generalize hM0 : (zero53.setIfInBounds 0 (.int .i64 (1 + d.kind % 5))).setIfInBounds 1 (.int .i64 (d.n 0 % 16)) = M0 at hs0 hs1 hs2 hru
  replace hM0 := Lib.hid hM0
  replace hk1 := Lib.hid hk1
  replace hk := Lib.hid hk
  clear hB hZ hN
  go_upto_region 3 with (first | (refine wpList_build2_v rfl 42 0 1 _ _ rfl (.int .i64 (1 + d.kind % 5)) (.int .i64 (d.n 0 % 16)) rfl rfl (.agg M0) (hru.out _) ?_) | (refine wpList_store_row2 rfl 42 _ _ rfl rfl w1.heap.size rfl _ M0 42 hzM.out rfl (by exact hs0.out) hs1.out hs2.out ?_; intro w2 hM hmM))
  replace hmM : Mod (fun x => x = w1.heap.size) (w1.alloc (.cells zero53 42)) w2 := hmM
  have hz2 := hmM.size
  rw [show (w1.alloc (.cells zero53 42)).heap.size = w1.heap.size + 1 by simp] at hz2
  have hB2 := (HB.out.alloc (.cells zero53 42)).mod hmM (by have := HB.out.lt; omega)
  have hN2 := (HN1.out.alloc (.cells zero53 42)).mod hmM (by have := HN1.out.lt; omega)
  have HZ2 := Lib.hid ((HZ.out.alloc (.cells zero53 42)).mod hmM (by have := HZ.out.lt; omega))
  have hb2 := (hb.alloc hb.size (.cells zero53 42)).trans (hmM.below (by simp; have := hb.size; omega) (by rintro x rfl; exact hb.size))
  clear HB HZ HN1 hmM hzM hru hsn Hone hin
  obtain ⟨mb, hmb⟩ : ∃ mb, w1.heap.size = mb := ⟨_, rfl⟩
  rw [hmb] at hM hz2 hz1 ⊢
  have hmne : w.heap.size + 1 ≠ mb := by omega
  have hmle : w.heap.size ≤ mb := by omega
  replace hM0 := Lib.hid (hM0.out.symm)
  have hM0k : M0[0]? = some (.int .i64 1) := by rw [hM0.out, set_ne (by omega), set_eq (by decide), show 1 + d.kind % 5 = 1 from hk.out]
  have k21 := hM.cell hM0k
  clear hb k0 kn0
  have kn1 := hN2.cell (HN.out 1 (by omega))
  have kn4 := hN2.cell (HN.out 4 (by omega))
  have kn5 := hN2.cell (HN.out 5 (by omega))
  have r2 := hR.n 2 (by omega)
  have r3 := hR.n 3 (by omega)
  have r4 := hR.n 4 (by omega)
  have r5 := hR.n 5 (by omega)
  have r6 := hR.n 6 (by omega)
  have r7 := hR.n 7 (by omega)
  have kb0 := hB2.cell (hC.h9 0 (by omega))
  have rb0 := hR.big 0 (by omega)
  have hM0s : M0.size = 53 := by rw [hM0.out]; simp; rfl
  have c3 := hM.cell (Array.getElem?_eq_getElem (i := 3) (by omega))
  have c4 := hM.cell (Array.getElem?_eq_getElem (i := 4) (by omega))
  have hf : ∀ i, w2.frozen? ⟨mb, i, none⟩ = false := fun i => hM.froz i
  have q1 : 0 ≤ d.n 1 % 64 ∧ d.n 1 % 64 < 64 := by omega
  have q4 : 0 ≤ d.big 0 % 16777217 ∧ d.big 0 % 16777217 < 16777217 := by omega
  have s1 : (d.n 1).tmod 64 = d.n 1 % 64 := Int.tmod_eq_emod_of_nonneg r1.1
  have s2 : (d.big 0).tmod 16777217 = d.big 0 % 16777217 := Int.tmod_eq_emod_of_nonneg rb0.1
  have s3 : IntKind.u16.wrap (d.n 1 % 64) = d.n 1 % 64 := IntWalk.u16_in _ (by omega)
  have s4 : IntKind.i64.wrap (d.n 1 % 64) = d.n 1 % 64 := IntWalk.i64_in _ (by omega)
  have s5 : IntKind.u64.wrap (d.big 0 % 16777217) = d.big 0 % 16777217 := IntWalk.u64_in _ (by omega)
  have s6 : wrap64 (d.n 1 % 64) = d.n 1 % 64 := IntWalk.wrap64_in _ (by omega)
  have s7 : wrap64 (d.big 0 % 16777217) = d.big 0 % 16777217 := IntWalk.wrap64_in _ (by omega)
  have s8 : wrap64 (d.n 4) = d.n 4 := IntWalk.wrap64_in _ (by omega)
  have s9 : wrap64 (d.n 5) = d.n 5 := IntWalk.wrap64_in _ (by omega)
  have t8 : IntKind.i64.wrap (d.n 4 * 9) = d.n 4 * 9 := IntWalk.i64_in _ (by omega)
  have t9 : IntKind.i64.wrap (d.n 5 * 7) = d.n 5 * 7 := IntWalk.i64_in _ (by omega)
  have u8 : wrap64 (d.n 4 * 9) = d.n 4 * 9 := IntWalk.wrap64_in _ (by omega)
  have u9 : wrap64 (d.n 5 * 7) = d.n 5 * 7 := IntWalk.wrap64_in _ (by omega)
  have HM2 := Lib.hid hM
  have HB2 := Lib.hid hB2
  have HN2 := Lib.hid hN2
  replace hM0s := Lib.hid hM0s
  clear hM hB2 hN2 hM0k
  go_wp2_with fail
  go_region
  go_wp2_with fail
  go_region
  go_upto_region 10 with fail
  refine wp_world' (fun wx => Blk wx mb ((M0.setIfInBounds 3 (.int .i64 (d.n 1 % 64))).setIfInBounds 4 (.int .i64 (d.big 0 % 16777217))) 42 ∧ Blk wx (w.heap.size + 1) zero53 42 ∧ Blk wx (w.heap.size + 2) NR 23 ∧ Below w.heap.size w wx)
    ⟨((HM2.out.set 3 _).set 4 _).drew.drew, ((HZ2.out.other hmne _).other hmne _).drew.drew, ((HN2.out.other (by show w.heap.size + 2 ≠ mb; omega) _).other (by show w.heap.size + 2 ≠ mb; omega) _).drew.drew, ((hb2.setCell hmle _).setCell hmle _).drew.drew⟩ ?_
  rintro w3 ⟨hM3, hZ3, hN3, hb3⟩
  clear c3 c4 hf s1 s2 s3 s4 s5 s6 s7 s8 s9 t8 t9 u8 u9 k21 kn1 kn4 kn5 kb0
  obtain ⟨Ma, hMa⟩ : ∃ Ma, ((M0.setIfInBounds 3 (.int .i64 (d.n 1 % 64))).setIfInBounds 4 (.int .i64 (d.big 0 % 16777217))) = Ma := ⟨_, rfl⟩
  have hMas : Ma.size = 53 := by rw [← hMa]; simp only [Array.size_setIfInBounds]; exact hM0s.out
  rw [hMa] at hM3
  replace hMa := Lib.hid hMa
  refine wp_region_puts [33] [(66, .pointer (some ⟨w.heap.size + 2, 2, none⟩)), (67, .int .u16 (d.n 2)), (68, .agg #[.int .i64 (d.n 2 % 1024), .int .i64 (d.n 2 / 64)]), (69, .pointer (some ⟨w.heap.size + 2, 3, none⟩)), (70, .int .u16 (d.n 3)), (71, .agg #[.int .i64 (d.n 3 % 1024), .int .i64 (d.n 3 / 64)]), (72, .int .i64 (d.n 4 * 9)), (73, .int .i64 (d.n 4 * 9)), (74, .pointer (some ⟨w.heap.size + 2, 6, none⟩)), (75, .int .u16 (d.n 6)), (76, .int .u16 (d.n 6 % 999)), (77, .int .i64 (d.n 6 % 999)), (78, .int .i64 (d.n 4 * 9 + d.n 6 % 999)), (79, .agg #[.int .i64 (d.n 4 * 9), .int .i64 (d.n 4 * 9 + d.n 6 % 999)]), (80, .int .i64 (d.n 5 * 7)), (81, .int .i64 (d.n 5 * 7)), (82, .pointer (some ⟨w.heap.size + 2, 7, none⟩)), (83, .int .u16 (d.n 7)), (84, .int .u16 (d.n 7 % 999)), (85, .int .i64 (d.n 7 % 999)), (86, .int .i64 (d.n 5 * 7 + d.n 7 % 999)), (87, .agg #[.int .i64 (d.n 5 * 7), .int .i64 (d.n 5 * 7 + d.n 7 % 999)]), (88, .pointer (some ⟨w.heap.size + 2, 6, none⟩)), (89, .int .u16 (d.n 6)), (90, .int .u16 (d.n 6 % 1000)), (91, .int .i64 (d.n 6 % 1000)), (92, .int .i64 (1 + d.n 6 % 1000)), (93, .pointer (some ⟨w.heap.size + 2, 7, none⟩)), (94, .int .u16 (d.n 7)), (95, .int .u16 (d.n 7 % 1001)), (96, .int .i64 (d.n 7 % 1001)), (97, .agg #[.int .i64 (d.n 2 % 1024), .int .i64 (d.n 2 / 64), .int .i64 (d.n 3 % 1024), .int .i64 (d.n 3 / 64), .int .i64 (d.n 4 * 9), .int .i64 (d.n 4 * 9 + d.n 6 % 999), .int .i64 (d.n 5 * 7), .int .i64 (d.n 5 * 7 + d.n 7 % 999), .int .i64 (1 + d.n 6 % 1000), .int .i64 (d.n 7 % 1001)]), (98, .pointer (some ⟨mb, 5, none⟩))]
    (ClD1 NR Ma (Ma.toList.take 5 ++ (#[.int .i64 (d.n 2 % 1024), .int .i64 (d.n 2 / 64), .int .i64 (d.n 3 % 1024), .int .i64 (d.n 3 / 64), .int .i64 (d.n 4 * 9), .int .i64 (d.n 4 * 9 + d.n 6 % 999), .int .i64 (d.n 5 * 7), .int .i64 (d.n 5 * 7 + d.n 7 % 999), .int .i64 (1 + d.n 6 % 1000), .int .i64 (d.n 7 % 1001)] : Array Value).toList ++ Ma.toList.drop (5 + 10)).toArray w mb)
    (by kernel_rfl) (by kernel_rfl) (by kernel_rfl) (by kernel_rfl) (by kernel_rfl) ⟨hM3.drew, hZ3.drew, hN3.drew, hb3.drew⟩ ?_ ?_
  · intro aF hAF
    have E3 : aF.eval (.tmp 3) = .pointer (some ⟨w.heap.size + 2, 0, none⟩) := by rw [← hAF]; kernel_rfl
    have E4 : aF.eval (.tmp 4) = .pointer (some ⟨mb, 0, none⟩) := by rw [← hAF]; kernel_rfl
    have E5 : aF.eval (.tmp 5) = .int .i64 (d.n 4 * 9) := by rw [← hAF]; kernel_rfl
    have E6 : aF.eval (.tmp 6) = .int .i64 (d.n 5 * 7) := by rw [← hAF]; kernel_rfl
    have T66 : aF.tmps[66]? = some (.pointer (some ⟨w.heap.size + 2, 2, none⟩)) := by rw [← hAF]; kernel_rfl
    have E66 : aF.eval (.tmp 66) = .pointer (some ⟨w.heap.size + 2, 2, none⟩) := by rw [← hAF]; kernel_rfl
    have T67 : aF.tmps[67]? = some (.int .u16 (d.n 2)) := by rw [← hAF]; kernel_rfl
    have E67 : aF.eval (.tmp 67) = .int .u16 (d.n 2) := by rw [← hAF]; kernel_rfl
    have T68 : aF.tmps[68]? = some (.agg #[.int .i64 (d.n 2 % 1024), .int .i64 (d.n 2 / 64)]) := by rw [← hAF]; kernel_rfl
    have E68 : aF.eval (.tmp 68) = .agg #[.int .i64 (d.n 2 % 1024), .int .i64 (d.n 2 / 64)] := by rw [← hAF]; kernel_rfl
    have T69 : aF.tmps[69]? = some (.pointer (some ⟨w.heap.size + 2, 3, none⟩)) := by rw [← hAF]; kernel_rfl
    have E69 : aF.eval (.tmp 69) = .pointer (some ⟨w.heap.size + 2, 3, none⟩) := by rw [← hAF]; kernel_rfl
    have T70 : aF.tmps[70]? = some (.int .u16 (d.n 3)) := by rw [← hAF]; kernel_rfl
    have E70 : aF.eval (.tmp 70) = .int .u16 (d.n 3) := by rw [← hAF]; kernel_rfl
    have T71 : aF.tmps[71]? = some (.agg #[.int .i64 (d.n 3 % 1024), .int .i64 (d.n 3 / 64)]) := by rw [← hAF]; kernel_rfl
    have E71 : aF.eval (.tmp 71) = .agg #[.int .i64 (d.n 3 % 1024), .int .i64 (d.n 3 / 64)] := by rw [← hAF]; kernel_rfl
    have T72 : aF.tmps[72]? = some (.int .i64 (d.n 4 * 9)) := by rw [← hAF]; kernel_rfl
    have E72 : aF.eval (.tmp 72) = .int .i64 (d.n 4 * 9) := by rw [← hAF]; kernel_rfl
    have T73 : aF.tmps[73]? = some (.int .i64 (d.n 4 * 9)) := by rw [← hAF]; kernel_rfl
    have E73 : aF.eval (.tmp 73) = .int .i64 (d.n 4 * 9) := by rw [← hAF]; kernel_rfl
    have T74 : aF.tmps[74]? = some (.pointer (some ⟨w.heap.size + 2, 6, none⟩)) := by rw [← hAF]; kernel_rfl
    have E74 : aF.eval (.tmp 74) = .pointer (some ⟨w.heap.size + 2, 6, none⟩) := by rw [← hAF]; kernel_rfl
    have T75 : aF.tmps[75]? = some (.int .u16 (d.n 6)) := by rw [← hAF]; kernel_rfl
    have E75 : aF.eval (.tmp 75) = .int .u16 (d.n 6) := by rw [← hAF]; kernel_rfl
    have T76 : aF.tmps[76]? = some (.int .u16 (d.n 6 % 999)) := by rw [← hAF]; kernel_rfl
    have E76 : aF.eval (.tmp 76) = .int .u16 (d.n 6 % 999) := by rw [← hAF]; kernel_rfl
    have T77 : aF.tmps[77]? = some (.int .i64 (d.n 6 % 999)) := by rw [← hAF]; kernel_rfl
    have E77 : aF.eval (.tmp 77) = .int .i64 (d.n 6 % 999) := by rw [← hAF]; kernel_rfl
    have T78 : aF.tmps[78]? = some (.int .i64 (d.n 4 * 9 + d.n 6 % 999)) := by rw [← hAF]; kernel_rfl
    have E78 : aF.eval (.tmp 78) = .int .i64 (d.n 4 * 9 + d.n 6 % 999) := by rw [← hAF]; kernel_rfl
    have T79 : aF.tmps[79]? = some (.agg #[.int .i64 (d.n 4 * 9), .int .i64 (d.n 4 * 9 + d.n 6 % 999)]) := by rw [← hAF]; kernel_rfl
    have E79 : aF.eval (.tmp 79) = .agg #[.int .i64 (d.n 4 * 9), .int .i64 (d.n 4 * 9 + d.n 6 % 999)] := by rw [← hAF]; kernel_rfl
    have T80 : aF.tmps[80]? = some (.int .i64 (d.n 5 * 7)) := by rw [← hAF]; kernel_rfl
    have E80 : aF.eval (.tmp 80) = .int .i64 (d.n 5 * 7) := by rw [← hAF]; kernel_rfl
    have T81 : aF.tmps[81]? = some (.int .i64 (d.n 5 * 7)) := by rw [← hAF]; kernel_rfl
    have E81 : aF.eval (.tmp 81) = .int .i64 (d.n 5 * 7) := by rw [← hAF]; kernel_rfl
    have T82 : aF.tmps[82]? = some (.pointer (some ⟨w.heap.size + 2, 7, none⟩)) := by rw [← hAF]; kernel_rfl
    have E82 : aF.eval (.tmp 82) = .pointer (some ⟨w.heap.size + 2, 7, none⟩) := by rw [← hAF]; kernel_rfl
    have T83 : aF.tmps[83]? = some (.int .u16 (d.n 7)) := by rw [← hAF]; kernel_rfl
    have E83 : aF.eval (.tmp 83) = .int .u16 (d.n 7) := by rw [← hAF]; kernel_rfl
    have T84 : aF.tmps[84]? = some (.int .u16 (d.n 7 % 999)) := by rw [← hAF]; kernel_rfl
    have E84 : aF.eval (.tmp 84) = .int .u16 (d.n 7 % 999) := by rw [← hAF]; kernel_rfl
    have T85 : aF.tmps[85]? = some (.int .i64 (d.n 7 % 999)) := by rw [← hAF]; kernel_rfl
    have E85 : aF.eval (.tmp 85) = .int .i64 (d.n 7 % 999) := by rw [← hAF]; kernel_rfl
    have T86 : aF.tmps[86]? = some (.int .i64 (d.n 5 * 7 + d.n 7 % 999)) := by rw [← hAF]; kernel_rfl
    have E86 : aF.eval (.tmp 86) = .int .i64 (d.n 5 * 7 + d.n 7 % 999) := by rw [← hAF]; kernel_rfl
    have T87 : aF.tmps[87]? = some (.agg #[.int .i64 (d.n 5 * 7), .int .i64 (d.n 5 * 7 + d.n 7 % 999)]) := by rw [← hAF]; kernel_rfl
    have E87 : aF.eval (.tmp 87) = .agg #[.int .i64 (d.n 5 * 7), .int .i64 (d.n 5 * 7 + d.n 7 % 999)] := by rw [← hAF]; kernel_rfl
    have T88 : aF.tmps[88]? = some (.pointer (some ⟨w.heap.size + 2, 6, none⟩)) := by rw [← hAF]; kernel_rfl
    have E88 : aF.eval (.tmp 88) = .pointer (some ⟨w.heap.size + 2, 6, none⟩) := by rw [← hAF]; kernel_rfl
    have T89 : aF.tmps[89]? = some (.int .u16 (d.n 6)) := by rw [← hAF]; kernel_rfl
    have E89 : aF.eval (.tmp 89) = .int .u16 (d.n 6) := by rw [← hAF]; kernel_rfl
    have T90 : aF.tmps[90]? = some (.int .u16 (d.n 6 % 1000)) := by rw [← hAF]; kernel_rfl
    have E90 : aF.eval (.tmp 90) = .int .u16 (d.n 6 % 1000) := by rw [← hAF]; kernel_rfl
    have T91 : aF.tmps[91]? = some (.int .i64 (d.n 6 % 1000)) := by rw [← hAF]; kernel_rfl
    have E91 : aF.eval (.tmp 91) = .int .i64 (d.n 6 % 1000) := by rw [← hAF]; kernel_rfl
    have T92 : aF.tmps[92]? = some (.int .i64 (1 + d.n 6 % 1000)) := by rw [← hAF]; kernel_rfl
    have E92 : aF.eval (.tmp 92) = .int .i64 (1 + d.n 6 % 1000) := by rw [← hAF]; kernel_rfl
    have T93 : aF.tmps[93]? = some (.pointer (some ⟨w.heap.size + 2, 7, none⟩)) := by rw [← hAF]; kernel_rfl
    have E93 : aF.eval (.tmp 93) = .pointer (some ⟨w.heap.size + 2, 7, none⟩) := by rw [← hAF]; kernel_rfl
    have T94 : aF.tmps[94]? = some (.int .u16 (d.n 7)) := by rw [← hAF]; kernel_rfl
    have E94 : aF.eval (.tmp 94) = .int .u16 (d.n 7) := by rw [← hAF]; kernel_rfl
    have T95 : aF.tmps[95]? = some (.int .u16 (d.n 7 % 1001)) := by rw [← hAF]; kernel_rfl
    have E95 : aF.eval (.tmp 95) = .int .u16 (d.n 7 % 1001) := by rw [← hAF]; kernel_rfl
    have T96 : aF.tmps[96]? = some (.int .i64 (d.n 7 % 1001)) := by rw [← hAF]; kernel_rfl
    have E96 : aF.eval (.tmp 96) = .int .i64 (d.n 7 % 1001) := by rw [← hAF]; kernel_rfl
    have T97 : aF.tmps[97]? = some (.agg #[.int .i64 (d.n 2 % 1024), .int .i64 (d.n 2 / 64), .int .i64 (d.n 3 % 1024), .int .i64 (d.n 3 / 64), .int .i64 (d.n 4 * 9), .int .i64 (d.n 4 * 9 + d.n 6 % 999), .int .i64 (d.n 5 * 7), .int .i64 (d.n 5 * 7 + d.n 7 % 999), .int .i64 (1 + d.n 6 % 1000), .int .i64 (d.n 7 % 1001)]) := by rw [← hAF]; kernel_rfl
    have E97 : aF.eval (.tmp 97) = .agg #[.int .i64 (d.n 2 % 1024), .int .i64 (d.n 2 / 64), .int .i64 (d.n 3 % 1024), .int .i64 (d.n 3 / 64), .int .i64 (d.n 4 * 9), .int .i64 (d.n 4 * 9 + d.n 6 % 999), .int .i64 (d.n 5 * 7), .int .i64 (d.n 5 * 7 + d.n 7 % 999), .int .i64 (1 + d.n 6 % 1000), .int .i64 (d.n 7 % 1001)] := by rw [← hAF]; kernel_rfl
    have T98 : aF.tmps[98]? = some (.pointer (some ⟨mb, 5, none⟩)) := by rw [← hAF]; kernel_rfl
    have E98 : aF.eval (.tmp 98) = .pointer (some ⟨mb, 5, none⟩) := by rw [← hAF]; kernel_rfl
    clear hAF
    refine ⟨?_, ?_, ?_, ?_, ?_, ?_, ?_, ?_, ?_, ?_, ?_, ?_, ?_, ?_, ?_, ?_, ?_, ?_, ?_, ?_, ?_, ?_, ?_, ?_, ?_, ?_, ?_, ?_, ?_, ?_, ?_, ?_, ?_, ?_, trivial⟩
    · exact opOk_quiet _ (by intro d hd _; cases hd; exact T66) rfl (by decide) fun k w' hc => sv (run_idx8 2 (by omega) rfl E3 (fun _ => rfl)) hc
    · exact opOk_quiet _ (by intro d hd _; cases hd; exact T67) rfl (by decide) fun k w' hc => sv (run_load1 rfl E66 (run_u16 (hc.2.2.1.cell (HN.out 2 (by omega))))) hc
    · exact opOk_quiet _ (by intro d hd _; cases hd; exact T68) rfl (by decide) fun k w' hc => sc (run_callpl rfl E67) ((place_ref _ w' r2).mono fun e w'' h => ⟨h.1, hc.below h.2⟩)
    · exact opOk_quiet _ (by intro d hd _; cases hd; exact T69) rfl (by decide) fun k w' hc => sv (run_idx8 3 (by omega) rfl E3 (fun _ => rfl)) hc
    · exact opOk_quiet _ (by intro d hd _; cases hd; exact T70) rfl (by decide) fun k w' hc => sv (run_load1 rfl E69 (run_u16 (hc.2.2.1.cell (HN.out 3 (by omega))))) hc
    · exact opOk_quiet _ (by intro d hd _; cases hd; exact T71) rfl (by decide) fun k w' hc => sc (run_callpl rfl E70) ((place_ref _ w' r3).mono fun e w'' h => ⟨h.1, hc.below h.2⟩)
    · exact opOk_quiet _ (by intro d hd _; cases hd; exact T72) rfl (by decide) fun k w' hc => sv (run_move rfl E5) hc
    · exact opOk_quiet _ (by intro d hd _; cases hd; exact T73) rfl (by decide) fun k w' hc => sv (run_move rfl E5) hc
    · exact opOk_quiet _ (by intro d hd _; cases hd; exact T74) rfl (by decide) fun k w' hc => sv (run_idx8 6 (by omega) rfl E3 (fun _ => rfl)) hc
    · exact opOk_quiet _ (by intro d hd _; cases hd; exact T75) rfl (by decide) fun k w' hc => sv (run_load1 rfl E74 (run_u16 (hc.2.2.1.cell (HN.out 6 (by omega))))) hc
    · exact opOk_quiet _ (by intro d hd _; cases hd; exact T76) rfl (by decide) fun k w' hc => sv (run_rem16 999 (by omega) r6 rfl E75 (fun _ => rfl)) hc
    · exact opOk_quiet _ (by intro d hd _; cases hd; exact T77) rfl (by decide) fun k w' hc => sv (run_conv16 (by omega) rfl E76) hc
    · exact opOk_quiet _ (by intro d hd _; cases hd; exact T78) rfl (by decide) fun k w' hc => sv (run_add rfl E73 E77 (by omega)) hc
    · exact opOk_quiet _ (by intro d hd _; cases hd; exact T79) rfl (by decide) fun k w' hc => sv (run_win rfl E72 E78) hc
    · exact opOk_quiet _ (by intro d hd _; cases hd; exact T80) rfl (by decide) fun k w' hc => sv (run_move rfl E6) hc
    · exact opOk_quiet _ (by intro d hd _; cases hd; exact T81) rfl (by decide) fun k w' hc => sv (run_move rfl E6) hc
    · exact opOk_quiet _ (by intro d hd _; cases hd; exact T82) rfl (by decide) fun k w' hc => sv (run_idx8 7 (by omega) rfl E3 (fun _ => rfl)) hc
    · exact opOk_quiet _ (by intro d hd _; cases hd; exact T83) rfl (by decide) fun k w' hc => sv (run_load1 rfl E82 (run_u16 (hc.2.2.1.cell (HN.out 7 (by omega))))) hc
    · exact opOk_quiet _ (by intro d hd _; cases hd; exact T84) rfl (by decide) fun k w' hc => sv (run_rem16 999 (by omega) r7 rfl E83 (fun _ => rfl)) hc
    · exact opOk_quiet _ (by intro d hd _; cases hd; exact T85) rfl (by decide) fun k w' hc => sv (run_conv16 (by omega) rfl E84) hc
    · exact opOk_quiet _ (by intro d hd _; cases hd; exact T86) rfl (by decide) fun k w' hc => sv (run_add rfl E81 E85 (by omega)) hc
    · exact opOk_quiet _ (by intro d hd _; cases hd; exact T87) rfl (by decide) fun k w' hc => sv (run_win rfl E80 E86) hc
    · exact opOk_quiet _ (by intro d hd _; cases hd; exact T88) rfl (by decide) fun k w' hc => sv (run_idx8 6 (by omega) rfl E3 (fun _ => rfl)) hc
    · exact opOk_quiet _ (by intro d hd _; cases hd; exact T89) rfl (by decide) fun k w' hc => sv (run_load1 rfl E88 (run_u16 (hc.2.2.1.cell (HN.out 6 (by omega))))) hc
    · exact opOk_quiet _ (by intro d hd _; cases hd; exact T90) rfl (by decide) fun k w' hc => sv (run_rem16 1000 (by omega) r6 rfl E89 (fun _ => rfl)) hc
    · exact opOk_quiet _ (by intro d hd _; cases hd; exact T91) rfl (by decide) fun k w' hc => sv (run_conv16 (by omega) rfl E90) hc
    · exact opOk_quiet _ (by intro d hd _; cases hd; exact T92) rfl (by decide) fun k w' hc => sv (run_add rfl (show aF.eval (.const (.int .i64 1)) = .int .i64 1 from rfl) E91 (by omega)) hc
    · exact opOk_quiet _ (by intro d hd _; cases hd; exact T93) rfl (by decide) fun k w' hc => sv (run_idx8 7 (by omega) rfl E3 (fun _ => rfl)) hc
    · exact opOk_quiet _ (by intro d hd _; cases hd; exact T94) rfl (by decide) fun k w' hc => sv (run_load1 rfl E93 (run_u16 (hc.2.2.1.cell (HN.out 7 (by omega))))) hc
    · exact opOk_quiet _ (by intro d hd _; cases hd; exact T95) rfl (by decide) fun k w' hc => sv (run_rem16 1001 (by omega) r7 rfl E94 (fun _ => rfl)) hc
    · exact opOk_quiet _ (by intro d hd _; cases hd; exact T96) rfl (by decide) fun k w' hc => sv (run_conv16 (by omega) rfl E95) hc
    · exact opOk_quiet _ (by intro d hd _; cases hd; exact T97) rfl (by decide) fun k w' hc => sv (run_req rfl E68 E71 E79 E87 E92 E96) hc
    · exact opOk_quiet _ (by intro d hd _; cases hd; exact T98) rfl (by decide) fun k w' hc => sv (run_fld 5 5 rfl E4 (fun w => by kernel_rfl)) hc
    · exact opOk_chain 0 undef (by intro d hd; cases hd) rfl rfl (by decide) fun w' hc => by
        have hm : Blk w' mb Ma 42 := hc.1
        have hmod : ∀ X, Mod (fun x => x = mb) w' (w'.setRow mb X) := fun X => ⟨rfl, rfl, rfl, by simp [World.setRow], fun k _ hk => setRow_other w' mb k _ hk⟩
        exact ss (run_storeP rfl E98 E97 (run_storeVar_part w' mb 5 35 Ma _ _ hm (by rw [hMas]; show 5 + 10 ≤ 53; omega) (by intro v hv; simp at hv; rcases hv with h | h | h | h | h | h | h | h | h | h <;> (subst h; rfl)) (by kernel_rfl)))
          ⟨setRow_heap w' mb _ _ _ (0, 0) hm, hc.2.1.mod (hmod _) hmne, hc.2.2.1.mod (hmod _) (by show ¬ w.heap.size + 2 = mb; omega), hc.2.2.2.trans ((hmod _).below hc.2.2.2.size (by rintro x rfl; exact hmle))⟩
  · intro w5 hc
    simp only [putAll, List.foldl_cons, List.foldl_nil, Act.put, List.setIfInBounds_toArray, List.set_cons_succ, List.set_cons_zero]
    go_upto_region 21 with fail
    obtain ⟨hM5, hZ5, -, hb5⟩ := hc
    obtain ⟨MF, hMF⟩ : ∃ MF, (Ma.toList.take 5 ++ (#[.int .i64 (d.n 2 % 1024), .int .i64 (d.n 2 / 64), .int .i64 (d.n 3 % 1024), .int .i64 (d.n 3 / 64), .int .i64 (d.n 4 * 9), .int .i64 (d.n 4 * 9 + d.n 6 % 999), .int .i64 (d.n 5 * 7), .int .i64 (d.n 5 * 7 + d.n 7 % 999), .int .i64 (1 + d.n 6 % 1000), .int .i64 (d.n 7 % 1001)] : Array Value).toList ++ Ma.toList.drop (5 + 10)).toArray = MF := ⟨_, rfl⟩
    have hof : MsgOf MF (msgD d none 0) := by
      have hms : 5 + (#[.int .i64 (d.n 2 % 1024), .int .i64 (d.n 2 / 64), .int .i64 (d.n 3 % 1024), .int .i64 (d.n 3 / 64), .int .i64 (d.n 4 * 9), .int .i64 (d.n 4 * 9 + d.n 6 % 999), .int .i64 (d.n 5 * 7), .int .i64 (d.n 5 * 7 + d.n 7 % 999), .int .i64 (1 + d.n 6 % 1000), .int .i64 (d.n 7 % 1001)] : Array Value).size ≤ Ma.size := by rw [hMas]; show 5 + 10 ≤ 53; omega
      refine row_d1 d hk.out (by rw [← hMF]; exact (splice_size _ (#[.int .i64 (d.n 2 % 1024), .int .i64 (d.n 2 / 64), .int .i64 (d.n 3 % 1024), .int .i64 (d.n 3 / 64), .int .i64 (d.n 4 * 9), .int .i64 (d.n 4 * 9 + d.n 6 % 999), .int .i64 (d.n 5 * 7), .int .i64 (d.n 5 * 7 + d.n 7 % 999), .int .i64 (1 + d.n 6 % 1000), .int .i64 (d.n 7 % 1001)] : Array Value) _ hms).trans hMas) (fun i => ?_)
      rw [← hMF]
      refine (splice_get Ma (#[.int .i64 (d.n 2 % 1024), .int .i64 (d.n 2 / 64), .int .i64 (d.n 3 % 1024), .int .i64 (d.n 3 / 64), .int .i64 (d.n 4 * 9), .int .i64 (d.n 4 * 9 + d.n 6 % 999), .int .i64 (d.n 5 * 7), .int .i64 (d.n 5 * 7 + d.n 7 % 999), .int .i64 (1 + d.n 6 % 1000), .int .i64 (d.n 7 % 1001)] : Array Value) 5 hms i).trans ?_
      rw [← hMa.out, hM0.out]
      rfl
    replace hM5 : Blk w5 mb MF 42 := by rw [← hMF]; exact hM5
    have HZ3 := Lib.hid hZ5
    have Hof := Lib.hid hof
    have hone := Lib.hid (msg_one hof)
    have hsz := Lib.hid (msg_size _ hof.size)
    have hzs := Lib.hid (show zero53.size = MF.size from hof.size.symm)
    have hld := Lib.hid (run_load_row' (P := Try.prog) w5 mb 42 _ 42 _ hM5 Try.underlying42 rfl (msg_size _ hof.size))
    clear hM5 hZ5 hof hMF hM3 hZ3 hN3
    go_wp2_with (first | (refine wpList_load_v rfl 42 _ rfl ⟨mb, 0, none⟩ rfl _ hld.out ?_) | (refine wpList_store_row2 rfl 42 _ _ rfl rfl (w.heap.size + 1) rfl zero53 MF 42 HZ3.out rfl (by exact hzs.out) hone.out hsz.out ?_; intro wz hBz hmz))
    (try simp only [Exit.inBlock, Exit.then])
    exact bodyPost_ret (results_cell_row rfl _ _ (w.heap.size + 1) _ _ _ _ rfl hBz Try.underlying42 rfl hsz.out) rfl ⟨MF, none, 0, rfl, hb5.trans (hmz.below hb5.size (fun _ h => by rw [h]; omega)), Hof.out, dr_none _ _ _ (by have := hk.out; omega)⟩
end Go.Proofs.Ytcipdimnbleljaa
