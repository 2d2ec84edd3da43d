/-
  The document's side of layer 18: a draft's message, of kind 4.
  The document's side of layer 18: a draft's message, of kind 5.
-/
import Derived.Test.YtcipdimnbleljaaDmQ
import Derived.BigRegion
namespace Go.Proofs.Ytcipdimnbleljaa
open Go.RowKit
open Extern.Stop (cell)

theorem row_d4 (d : DV) (hk : kindD d = 4) : MsgOf ((((two (kindD d) (d.n 0 % 16)).setIfInBounds 2 (.int .i64 (d.n 1 % 8))).setIfInBounds 48 (.int .u64 (d.big 0 % 4294967297))).setIfInBounds 49 (.int .u64 (d.big 1))) (msgD d none 0) := by
  have h := two_of (kindD d) (d.n 0 % 16)
  have hs := h.size
  refine ⟨by simp only [Array.size_setIfInBounds]; exact hs, ?_, ?_, ?_, ?_, ?_, ?_, ?_, ?_, ?_, ?_, ?_, ?_, ?_, ?_⟩
  · repeat rw [set_ne (by omega)]
    exact h.h0
  · repeat rw [set_ne (by omega)]
    exact h.h1
  · repeat rw [set_ne (by omega)]
    rw [set_eq (by omega)]
    simp [msgD, hk]
  · repeat rw [set_ne (by omega)]
    rw [h.h3]; simp [msgD, hk, zeroM]
  · repeat rw [set_ne (by omega)]
    rw [h.h4]; simp [msgD, hk, zeroM]
  · intro i hi
    repeat rw [set_ne (by omega)]
    rw [h.h5 i hi]; simp [msgD, hk, zeroM]
  · intro i hi
    repeat rw [set_ne (by omega)]
    rw [h.h15 i hi]; simp [msgD, hk, zeroM]
  · rw [show (msgD d none 0).dg = dg0 by simp [msgD, hk]]; decide
  · repeat rw [set_ne (by omega)]
    rw [h.h47]; simp [msgD, hk, zeroM]
  · repeat rw [set_ne (by omega)]
    rw [set_eq (by simp only [Array.size_setIfInBounds]; omega)]
    simp [msgD, hk]
  · rw [set_eq (by simp only [Array.size_setIfInBounds]; omega)]
    simp [msgD, hk]
  · repeat rw [set_ne (by omega)]
    rw [h.h50]; simp [msgD, hk, zeroM]
  · repeat rw [set_ne (by omega)]
    rw [h.h51]; simp [msgD, hk, zeroM]
  · repeat rw [set_ne (by omega)]
    rw [h.h52]; simp [msgD, hk, zeroM]
set_option maxHeartbeats 2000000 in
set_option maxRecDepth 100000 in
theorem draft4_calls (C : Array Value) (d : DV) (w : World) (hC : DraftOf C d) (hR : DraftRg d) (hk : kindD d = 4) : Calls Try.prog 10 #[.agg C] w (DrPost d w) := by
  have hc0 := hC.size
  have hkd := hR.kind
  have r0 := hR.n 0 (by omega)
  have r1 := hR.n 1 (by omega)
  have g0 := hC.h0
  have HN := Lib.hid (nrow_get hC)
  have hns : (C.extract 1 (1 + 8)).size = 8 := by simp; omega
  obtain ⟨NR, hNR⟩ : ∃ NR, C.extract 1 (1 + 8) = NR := ⟨_, rfl⟩
  rw [hNR] at HN hns
  have hone : ∀ v ∈ NR.toList, v.oneCell' = true := by
    intro v hv
    obtain ⟨i, hi, rfl⟩ := List.getElem_of_mem hv
    have hi' : i < 8 := by rw [← hns]; simpa using hi
    have := HN.out i hi'
    rw [Array.getElem?_eq_getElem (by omega)] at this
    have e : NR.toList[i] = .int .u16 (d.n i) := by simpa using this
    rw [e]; rfl
  go_enter Try.func10, Try.ntmps10
  go_upto_region 1 with fail
  refine wp_world' (fun wx => Blk wx w.heap.size C 28 ∧ Blk wx (w.heap.size + 1) zero53 42 ∧ wx.heap.size = w.heap.size + 2 ∧ Below w.heap.size w wx)
    ⟨(Blk.new w C _).alloc _, Blk.new' w _ _ _, by simp, ((Below.refl _ _).alloc (Nat.le_refl _) _).alloc (by simp) _⟩ ?_
  rintro w0 ⟨hB, hZ, hz, hb⟩
  have hld := Lib.hid (load_part (P := Try.prog) w0 _ C _ hB 1 8 (by omega) 23 _ Try.underlying23 rfl (by kernel_rfl))
  rw [hNR] at hld
  have hsn := Lib.hid (show (#[.int .u16 0, .int .u16 0, .int .u16 0, .int .u16 0, .int .u16 0, .int .u16 0, .int .u16 0, .int .u16 0] : Array Value).size = NR.size by rw [hns]; rfl)
  have Hone := Lib.hid hone
  have hzn := Lib.hid (show Blk (w0.alloc (.cells #[.int .u16 0, .int .u16 0, .int .u16 0, .int .u16 0, .int .u16 0, .int .u16 0, .int .u16 0, .int .u16 0] 23)) (w.heap.size + 2) #[.int .u16 0, .int .u16 0, .int .u16 0, .int .u16 0, .int .u16 0, .int .u16 0, .int .u16 0, .int .u16 0] 23 by rw [← hz]; exact Blk.new _ _ _)
  have hin := Lib.hid (show (Try.prog.info? 23).map (·.size) = some NR.size by rw [hns]; kernel_rfl)
  have HB := Lib.hid hB
  have HZ := Lib.hid hZ
  clear hone hns hNR hB hZ
  go_upto_region 2 with (first | (refine wpList_load_v rfl 23 _ rfl ⟨w.heap.size, 1, none⟩ rfl _ hld.out ?_) | (refine wpList_store_row2 rfl 23 _ _ rfl rfl (w.heap.size + 2) rfl _ NR 23 hzn.out rfl (by exact hsn.out) Hone.out hin.out ?_; intro w1 hN hmN))
  have hB1 := (HB.out.alloc (.cells #[.int .u16 0, .int .u16 0, .int .u16 0, .int .u16 0, .int .u16 0, .int .u16 0, .int .u16 0, .int .u16 0] 23)).mod hmN (by omega)
  have hZ1 := (HZ.out.alloc (.cells #[.int .u16 0, .int .u16 0, .int .u16 0, .int .u16 0, .int .u16 0, .int .u16 0, .int .u16 0, .int .u16 0] 23)).mod hmN (by omega)
  have hb1 := (hb.alloc hb.size (.cells #[.int .u16 0, .int .u16 0, .int .u16 0, .int .u16 0, .int .u16 0, .int .u16 0, .int .u16 0, .int .u16 0] 23)).trans (hmN.below (by simp; have := hb.size; omega) (by rintro x rfl; omega))
  have hz1 : w.heap.size + 3 ≤ w1.heap.size := by have := hmN.size; simp at this; omega
  clear HB HZ hb hld hzn hmN hz
  have hB := hB1
  have hZ := hZ1
  have hb := hb1
  clear hB1 hZ1 hb1
  have k0 := hB.cell g0
  have kn0 := hN.cell (HN.out 0 (by omega))
  have HB := Lib.hid hB
  have HZ := Lib.hid hZ
  have HN1 := Lib.hid hN
  have hk1 : 1 + d.kind % 5 = kindD d := rfl
  have q5 : 0 ≤ d.kind % 5 ∧ d.kind % 5 < 5 := by omega
  have q6 : 0 ≤ d.n 0 % 16 ∧ d.n 0 % 16 < 16 := by omega
  have hzM := Lib.hid (show Blk (w1.alloc (.cells zero53 42)) w1.heap.size zero53 42 from Blk.new _ _ _)
  have hs0 := Lib.hid (show zero53.size = ((zero53.setIfInBounds 0 (.int .i64 (1 + d.kind % 5))).setIfInBounds 1 (.int .i64 (d.n 0 % 16))).size by simp)
  have hs1 := Lib.hid (two_one (1 + d.kind % 5) (d.n 0 % 16))
  have hs2 := Lib.hid (msg_size ((zero53.setIfInBounds 0 (.int .i64 (1 + d.kind % 5))).setIfInBounds 1 (.int .i64 (d.n 0 % 16))) (by simp; rfl))
  have hru := Lib.hid (run_two (1 + d.kind % 5) (d.n 0 % 16))
  generalize hM0 : (zero53.setIfInBounds 0 (.int .i64 (1 + d.kind % 5))).setIfInBounds 1 (.int .i64 (d.n 0 % 16)) = M0 at hs0 hs1 hs2 hru
  replace hM0 := Lib.hid hM0
  replace hk1 := Lib.hid hk1
  replace hk := Lib.hid hk
  clear hB hZ hN
  go_upto_region 3 with (first | (refine wpList_build2_v rfl 42 0 1 _ _ rfl (.int .i64 (1 + d.kind % 5)) (.int .i64 (d.n 0 % 16)) rfl rfl (.agg M0) (hru.out _) ?_) | (refine wpList_store_row2 rfl 42 _ _ rfl rfl w1.heap.size rfl _ M0 42 hzM.out rfl (by exact hs0.out) hs1.out hs2.out ?_; intro w2 hM hmM))
  replace hmM : Mod (fun x => x = w1.heap.size) (w1.alloc (.cells zero53 42)) w2 := hmM
  have hz2 := hmM.size
  rw [show (w1.alloc (.cells zero53 42)).heap.size = w1.heap.size + 1 by simp] at hz2
  have hB2 := (HB.out.alloc (.cells zero53 42)).mod hmM (by have := HB.out.lt; omega)
  have hN2 := (HN1.out.alloc (.cells zero53 42)).mod hmM (by have := HN1.out.lt; omega)
  have HZ2 := Lib.hid ((HZ.out.alloc (.cells zero53 42)).mod hmM (by have := HZ.out.lt; omega))
  have hb2 := (hb.alloc hb.size (.cells zero53 42)).trans (hmM.below (by simp; have := hb.size; omega) (by rintro x rfl; exact hb.size))
  clear HB HZ HN1 hmM hzM hru hsn Hone hin
  obtain ⟨mb, hmb⟩ : ∃ mb, w1.heap.size = mb := ⟨_, rfl⟩
  rw [hmb] at hM hz2 hz1 ⊢
  have hmne : w.heap.size + 1 ≠ mb := by omega
  have hmle : w.heap.size ≤ mb := by omega
  replace hM0 := Lib.hid (hM0.out.symm)
  have hM0k : M0[0]? = some (.int .i64 4) := by rw [hM0.out, set_ne (by omega), set_eq (by decide), show 1 + d.kind % 5 = 4 from hk.out]
  have k21 := hM.cell hM0k
  clear hb k0 kn0
  have kn1 := hN2.cell (HN.out 1 (by omega))
  have kb0 := hB2.cell (hC.h9 0 (by omega))
  have kb1 := hB2.cell (hC.h9 1 (by omega))
  have rb0 := hR.big 0 (by omega)
  have hM0s : M0.size = 53 := by rw [hM0.out]; simp; rfl
  have c2 := hM.cell (Array.getElem?_eq_getElem (i := 2) (by omega))
  have c48 := hM.cell (Array.getElem?_eq_getElem (i := 48) (by omega))
  have c49 := hM.cell (Array.getElem?_eq_getElem (i := 49) (by omega))
  have hf : ∀ i, w2.frozen? ⟨mb, i, none⟩ = false := fun i => hM.froz i
  have s1 : (d.n 1).tmod 8 = d.n 1 % 8 := Int.tmod_eq_emod_of_nonneg r1.1
  have s2 : (d.big 0).tmod 4294967297 = d.big 0 % 4294967297 := Int.tmod_eq_emod_of_nonneg rb0.1
  have s3 : IntKind.u16.wrap (d.n 1 % 8) = d.n 1 % 8 := IntWalk.u16_in _ (by omega)
  have s4 : IntKind.i64.wrap (d.n 1 % 8) = d.n 1 % 8 := IntWalk.i64_in _ (by omega)
  have s5 : IntKind.u64.wrap (d.big 0 % 4294967297) = d.big 0 % 4294967297 := IntWalk.u64_in _ (by omega)
  have s6 : wrap64 (d.n 1 % 8) = d.n 1 % 8 := IntWalk.wrap64_in _ (by omega)
  have HM2 := Lib.hid hM
  replace hM0s := Lib.hid hM0s
  clear hM hB2 hN2 hM0k
  go_wp2_with fail
  go_region
  go_upto_region 21 with fail
  clear c2 c48 c49 hf s1 s2 s3 s4 s5 s6 k21 kn1 kb0 kb1
  refine wp_world' (fun wx => Blk wx mb (((M0.setIfInBounds 2 (.int .i64 (d.n 1 % 8))).setIfInBounds 48 (.int .u64 (d.big 0 % 4294967297))).setIfInBounds 49 (.int .u64 (d.big 1))) 42 ∧ Blk wx (w.heap.size + 1) zero53 42 ∧ Below w.heap.size w wx) ⟨?_, ?_, ?_⟩ ?_
  · exact (((HM2.out.set 2 _).set 48 _).set 49 _).drew
  · exact ((((HZ2.out.other hmne _).other hmne _).other hmne _)).drew
  · exact (((hb2.setCell hmle _).setCell hmle _).setCell hmle _).drew
  rintro w3 ⟨hM3, hZ3, hb3⟩
  have hof := row_d4 d hk.out
  rw [show (((M0.setIfInBounds 2 (.int .i64 (d.n 1 % 8))).setIfInBounds 48 (.int .u64 (d.big 0 % 4294967297))).setIfInBounds 49 (.int .u64 (d.big 1))) = (((two (kindD d) (d.n 0 % 16)).setIfInBounds 2 (.int .i64 (d.n 1 % 8))).setIfInBounds 48 (.int .u64 (d.big 0 % 4294967297))).setIfInBounds 49 (.int .u64 (d.big 1)) by rw [hM0.out]; rfl] at hM3
  have HZ3 := Lib.hid hZ3
  have Hof := Lib.hid hof
  have hone := Lib.hid (msg_one hof)
  have hsz := Lib.hid (msg_size _ hof.size)
  have hzs := Lib.hid (show zero53.size = ((((two (kindD d) (d.n 0 % 16)).setIfInBounds 2 (.int .i64 (d.n 1 % 8))).setIfInBounds 48 (.int .u64 (d.big 0 % 4294967297))).setIfInBounds 49 (.int .u64 (d.big 1))).size by rw [hof.size]; rfl)
  have hld := Lib.hid (run_load_row' (P := Try.prog) w3 mb 42 _ 42 _ hM3 Try.underlying42 rfl (msg_size _ hof.size))
  clear hM3 hZ3 hof
  generalize (((two (kindD d) (d.n 0 % 16)).setIfInBounds 2 (.int .i64 (d.n 1 % 8))).setIfInBounds 48 (.int .u64 (d.big 0 % 4294967297))).setIfInBounds 49 (.int .u64 (d.big 1)) = MF at Hof hone hsz hzs hld
  go_wp2_with (first | (refine wpList_load_v rfl 42 _ rfl ⟨mb, 0, none⟩ rfl _ hld.out ?_) | (refine wpList_store_row2 rfl 42 _ _ rfl rfl (w.heap.size + 1) rfl zero53 MF 42 HZ3.out rfl (by exact hzs.out) hone.out hsz.out ?_; intro wz hBz hmz))
  (try simp only [Exit.inBlock, Exit.then])
  exact bodyPost_ret (results_cell_row rfl _ _ (w.heap.size + 1) _ _ _ _ rfl hBz Try.underlying42 rfl hsz.out) rfl ⟨MF, none, 0, rfl, hb3.trans (hmz.below hb3.size (fun _ h => by rw [h]; omega)), Hof.out, dr_none _ _ _ (by have := hk.out; omega)⟩
end Go.Proofs.Ytcipdimnbleljaa
namespace Go.Proofs.Ytcipdimnbleljaa
open Go.RowKit
open Extern.Stop (cell)

theorem row_d5a (d : DV) (hk : kindD d = 5) (h3 : d.n 1 % 3 = 0) : MsgOf ((((two (kindD d) (d.n 0 % 16)).setIfInBounds 50 (.int .i64 3)).setIfInBounds 51 (.int .i64 (-1))).setIfInBounds 52 (.int .u64 0)) (msgD d none 0) := by
  have h := two_of (kindD d) (d.n 0 % 16)
  have hs := h.size
  refine ⟨by simp only [Array.size_setIfInBounds]; exact hs, ?_, ?_, ?_, ?_, ?_, ?_, ?_, ?_, ?_, ?_, ?_, ?_, ?_, ?_⟩
  · repeat rw [set_ne (by omega)]
    exact h.h0
  · repeat rw [set_ne (by omega)]
    exact h.h1
  · repeat rw [set_ne (by omega)]
    rw [h.h2]; simp [msgD, hk, zeroM]
  · repeat rw [set_ne (by omega)]
    rw [h.h3]; simp [msgD, hk, zeroM]
  · repeat rw [set_ne (by omega)]
    rw [h.h4]; simp [msgD, hk, zeroM]
  · intro i hi
    repeat rw [set_ne (by omega)]
    rw [h.h5 i hi]; simp [msgD, hk, zeroM]
  · intro i hi
    repeat rw [set_ne (by omega)]
    rw [h.h15 i hi]; simp [msgD, hk, zeroM]
  · rw [show (msgD d none 0).dg = dg0 by simp [msgD, hk]]; decide
  · repeat rw [set_ne (by omega)]
    rw [h.h47]; simp [msgD, hk, zeroM]
  · repeat rw [set_ne (by omega)]
    rw [h.h48]; simp [msgD, hk, zeroM]
  · repeat rw [set_ne (by omega)]
    rw [h.h49]; simp [msgD, hk, zeroM]
  · repeat rw [set_ne (by omega)]
    rw [set_eq (by first | omega | (simp only [Array.size_setIfInBounds]; omega))]
    simp [msgD, hk, h3]
  · repeat rw [set_ne (by omega)]
    rw [set_eq (by first | omega | (simp only [Array.size_setIfInBounds]; omega))]
    simp [msgD, hk, h3]
  · repeat rw [set_ne (by omega)]
    rw [set_eq (by first | omega | (simp only [Array.size_setIfInBounds]; omega))]
    simp [msgD, hk, h3]
theorem row_d5b (d : DV) (hk : kindD d = 5) (h3 : ¬ d.n 1 % 3 = 0) : MsgOf (((((((two (kindD d) (d.n 0 % 16)).setIfInBounds 50 (.int .i64 3)).setIfInBounds 51 (.int .i64 (-1))).setIfInBounds 52 (.int .u64 0)).setIfInBounds 50 (.int .i64 (2 + (d.n 1 % 3 / 2) * 2))).setIfInBounds 51 (.int .i64 (d.n 2 % 8))).setIfInBounds 52 (.int .u64 (d.big 0 % 16777217))) (msgD d none 0) := by
  have h := two_of (kindD d) (d.n 0 % 16)
  have hs := h.size
  refine ⟨by simp only [Array.size_setIfInBounds]; exact hs, ?_, ?_, ?_, ?_, ?_, ?_, ?_, ?_, ?_, ?_, ?_, ?_, ?_, ?_⟩
  · repeat rw [set_ne (by omega)]
    exact h.h0
  · repeat rw [set_ne (by omega)]
    exact h.h1
  · repeat rw [set_ne (by omega)]
    rw [h.h2]; simp [msgD, hk, zeroM]
  · repeat rw [set_ne (by omega)]
    rw [h.h3]; simp [msgD, hk, zeroM]
  · repeat rw [set_ne (by omega)]
    rw [h.h4]; simp [msgD, hk, zeroM]
  · intro i hi
    repeat rw [set_ne (by omega)]
    rw [h.h5 i hi]; simp [msgD, hk, zeroM]
  · intro i hi
    repeat rw [set_ne (by omega)]
    rw [h.h15 i hi]; simp [msgD, hk, zeroM]
  · rw [show (msgD d none 0).dg = dg0 by simp [msgD, hk]]; decide
  · repeat rw [set_ne (by omega)]
    rw [h.h47]; simp [msgD, hk, zeroM]
  · repeat rw [set_ne (by omega)]
    rw [h.h48]; simp [msgD, hk, zeroM]
  · repeat rw [set_ne (by omega)]
    rw [h.h49]; simp [msgD, hk, zeroM]
  · repeat rw [set_ne (by omega)]
    rw [set_eq (by first | omega | (simp only [Array.size_setIfInBounds]; omega))]
    simp [msgD, hk, h3]
  · repeat rw [set_ne (by omega)]
    rw [set_eq (by first | omega | (simp only [Array.size_setIfInBounds]; omega))]
    simp [msgD, hk, h3]
  · repeat rw [set_ne (by omega)]
    rw [set_eq (by first | omega | (simp only [Array.size_setIfInBounds]; omega))]
    simp [msgD, hk, h3]
set_option maxHeartbeats 2000000 in
set_option maxRecDepth 100000 in
theorem draft5_calls (C : Array Value) (d : DV) (w : World) (hC : DraftOf C d) (hR : DraftRg d) (hk : kindD d = 5) : Calls Try.prog 10 #[.agg C] w (DrPost d w) := by
  have hc0 := hC.size
  have hkd := hR.kind
  have r0 := hR.n 0 (by omega)
  have r1 := hR.n 1 (by omega)
  have g0 := hC.h0
  have HN := Lib.hid (nrow_get hC)
  have hns : (C.extract 1 (1 + 8)).size = 8 := by simp; omega
  obtain ⟨NR, hNR⟩ : ∃ NR, C.extract 1 (1 + 8) = NR := ⟨_, rfl⟩
  rw [hNR] at HN hns
  have hone : ∀ v ∈ NR.toList, v.oneCell' = true := by
    intro v hv
    obtain ⟨i, hi, rfl⟩ := List.getElem_of_mem hv
    have hi' : i < 8 := by rw [← hns]; simpa using hi
    have := HN.out i hi'
    rw [Array.getElem?_eq_getElem (by omega)] at this
    have e : NR.toList[i] = .int .u16 (d.n i) := by simpa using this
    rw [e]; rfl
  go_enter Try.func10, Try.ntmps10
  go_upto_region 1 with fail
  refine wp_world' (fun wx => Blk wx w.heap.size C 28 ∧ Blk wx (w.heap.size + 1) zero53 42 ∧ wx.heap.size = w.heap.size + 2 ∧ Below w.heap.size w wx)
    ⟨(Blk.new w C _).alloc _, Blk.new' w _ _ _, by simp, ((Below.refl _ _).alloc (Nat.le_refl _) _).alloc (by simp) _⟩ ?_
  rintro w0 ⟨hB, hZ, hz, hb⟩
  have hld := Lib.hid (load_part (P := Try.prog) w0 _ C _ hB 1 8 (by omega) 23 _ Try.underlying23 rfl (by kernel_rfl))
  rw [hNR] at hld
  have hsn := Lib.hid (show (#[.int .u16 0, .int .u16 0, .int .u16 0, .int .u16 0, .int .u16 0, .int .u16 0, .int .u16 0, .int .u16 0] : Array Value).size = NR.size by rw [hns]; rfl)
  have Hone := Lib.hid hone
  have hzn := Lib.hid (show Blk (w0.alloc (.cells #[.int .u16 0, .int .u16 0, .int .u16 0, .int .u16 0, .int .u16 0, .int .u16 0, .int .u16 0, .int .u16 0] 23)) (w.heap.size + 2) #[.int .u16 0, .int .u16 0, .int .u16 0, .int .u16 0, .int .u16 0, .int .u16 0, .int .u16 0, .int .u16 0] 23 by rw [← hz]; exact Blk.new _ _ _)
  have hin := Lib.hid (show (Try.prog.info? 23).map (·.size) = some NR.size by rw [hns]; kernel_rfl)
  have HB := Lib.hid hB
  have HZ := Lib.hid hZ
  clear hone hns hNR hB hZ
  go_upto_region 2 with (first | (refine wpList_load_v rfl 23 _ rfl ⟨w.heap.size, 1, none⟩ rfl _ hld.out ?_) | (refine wpList_store_row2 rfl 23 _ _ rfl rfl (w.heap.size + 2) rfl _ NR 23 hzn.out rfl (by exact hsn.out) Hone.out hin.out ?_; intro w1 hN hmN))
  have hB1 := (HB.out.alloc (.cells #[.int .u16 0, .int .u16 0, .int .u16 0, .int .u16 0, .int .u16 0, .int .u16 0, .int .u16 0, .int .u16 0] 23)).mod hmN (by omega)
  have hZ1 := (HZ.out.alloc (.cells #[.int .u16 0, .int .u16 0, .int .u16 0, .int .u16 0, .int .u16 0, .int .u16 0, .int .u16 0, .int .u16 0] 23)).mod hmN (by omega)
  have hb1 := (hb.alloc hb.size (.cells #[.int .u16 0, .int .u16 0, .int .u16 0, .int .u16 0, .int .u16 0, .int .u16 0, .int .u16 0, .int .u16 0] 23)).trans (hmN.below (by simp; have := hb.size; omega) (by rintro x rfl; omega))
  have hz1 : w.heap.size + 3 ≤ w1.heap.size := by have := hmN.size; simp at this; omega
  clear HB HZ hb hld hzn hmN hz
  have hB := hB1
  have hZ := hZ1
  have hb := hb1
  clear hB1 hZ1 hb1
  have k0 := hB.cell g0
  have kn0 := hN.cell (HN.out 0 (by omega))
  have HB := Lib.hid hB
  have HZ := Lib.hid hZ
  have HN1 := Lib.hid hN
  have hk1 : 1 + d.kind % 5 = kindD d := rfl
  have q5 : 0 ≤ d.kind % 5 ∧ d.kind % 5 < 5 := by omega
  have q6 : 0 ≤ d.n 0 % 16 ∧ d.n 0 % 16 < 16 := by omega
  have hzM := Lib.hid (show Blk (w1.alloc (.cells zero53 42)) w1.heap.size zero53 42 from Blk.new _ _ _)
  have hs0 := Lib.hid (show zero53.size = ((zero53.setIfInBounds 0 (.int .i64 (1 + d.kind % 5))).setIfInBounds 1 (.int .i64 (d.n 0 % 16))).size by simp)
  have hs1 := Lib.hid (two_one (1 + d.kind % 5) (d.n 0 % 16))
  have hs2 := Lib.hid (msg_size ((zero53.setIfInBounds 0 (.int .i64 (1 + d.kind % 5))).setIfInBounds 1 (.int .i64 (d.n 0 % 16))) (by simp; rfl))
  have hru := Lib.hid (run_two (1 + d.kind % 5) (d.n 0 % 16))
  generalize hM0 : (zero53.setIfInBounds 0 (.int .i64 (1 + d.kind % 5))).setIfInBounds 1 (.int .i64 (d.n 0 % 16)) = M0 at hs0 hs1 hs2 hru
  replace hM0 := Lib.hid hM0
  replace hk1 := Lib.hid hk1
  replace hk := Lib.hid hk
  clear hB hZ hN
  go_upto_region 3 with (first | (refine wpList_build2_v rfl 42 0 1 _ _ rfl (.int .i64 (1 + d.kind % 5)) (.int .i64 (d.n 0 % 16)) rfl rfl (.agg M0) (hru.out _) ?_) | (refine wpList_store_row2 rfl 42 _ _ rfl rfl w1.heap.size rfl _ M0 42 hzM.out rfl (by exact hs0.out) hs1.out hs2.out ?_; intro w2 hM hmM))
  replace hmM : Mod (fun x => x = w1.heap.size) (w1.alloc (.cells zero53 42)) w2 := hmM
  have hz2 := hmM.size
  rw [show (w1.alloc (.cells zero53 42)).heap.size = w1.heap.size + 1 by simp] at hz2
  have hB2 := (HB.out.alloc (.cells zero53 42)).mod hmM (by have := HB.out.lt; omega)
  have hN2 := (HN1.out.alloc (.cells zero53 42)).mod hmM (by have := HN1.out.lt; omega)
  have HZ2 := Lib.hid ((HZ.out.alloc (.cells zero53 42)).mod hmM (by have := HZ.out.lt; omega))
  have hb2 := (hb.alloc hb.size (.cells zero53 42)).trans (hmM.below (by simp; have := hb.size; omega) (by rintro x rfl; exact hb.size))
  clear HB HZ HN1 hmM hzM hru hsn Hone hin
  obtain ⟨mb, hmb⟩ : ∃ mb, w1.heap.size = mb := ⟨_, rfl⟩
  rw [hmb] at hM hz2 hz1 ⊢
  have hmne : w.heap.size + 1 ≠ mb := by omega
  have hmle : w.heap.size ≤ mb := by omega
  replace hM0 := Lib.hid (hM0.out.symm)
  have hM0k : M0[0]? = some (.int .i64 5) := by rw [hM0.out, set_ne (by omega), set_eq (by decide), show 1 + d.kind % 5 = 5 from hk.out]
  have k21 := hM.cell hM0k
  clear hb k0 kn0
  have kn1 := hN2.cell (HN.out 1 (by omega))
  have kn2 := hN2.cell (HN.out 2 (by omega))
  have r2 := hR.n 2 (by omega)
  have kb0 := hB2.cell (hC.h9 0 (by omega))
  have rb0 := hR.big 0 (by omega)
  have hM0s : M0.size = 53 := by rw [hM0.out]; simp; rfl
  have c50 := hM.cell (Array.getElem?_eq_getElem (i := 50) (by omega))
  have c51 := hM.cell (Array.getElem?_eq_getElem (i := 51) (by omega))
  have c52 := hM.cell (Array.getElem?_eq_getElem (i := 52) (by omega))
  have hf : ∀ i, w2.frozen? ⟨mb, i, none⟩ = false := fun i => hM.froz i
  have q1 : 0 ≤ d.n 1 % 3 ∧ d.n 1 % 3 < 3 := by omega
  have q2 : 0 ≤ d.n 1 % 3 / 2 ∧ d.n 1 % 3 / 2 < 2 := by omega
  have q3 : 0 ≤ d.n 2 % 8 ∧ d.n 2 % 8 < 8 := by omega
  have q4 : 0 ≤ d.big 0 % 16777217 ∧ d.big 0 % 16777217 < 16777217 := by omega
  have s1 : (d.n 1 % 3).tdiv 2 = d.n 1 % 3 / 2 := Int.tdiv_eq_ediv_of_nonneg q1.1
  have s2 : IntKind.u16.wrap (d.n 1 % 3 / 2) = d.n 1 % 3 / 2 := IntWalk.u16_in _ (by omega)
  have s3 : wrap64 (d.n 1 % 3 / 2) = d.n 1 % 3 / 2 := IntWalk.wrap64_in _ (by omega)
  have HM2 := Lib.hid hM
  replace hM0s := Lib.hid hM0s
  clear hM hB2 hN2 hM0k
  by_cases h3 : d.n 1 % 3 = 0
  · have i3 : (d.n 1 % 3 == 0) = true := by simpa using h3
    have i4 : (d.n 1 % 3 != 0) = false := by simpa using h3
    go_upto_region 21 with fail
    clear c50 c51 c52 hf s1 s2 s3 k21 kn1 kn2 kb0 i3 i4
    refine wp_world' (fun wx => Blk wx mb (((M0.setIfInBounds 50 (.int .i64 3)).setIfInBounds 51 (.int .i64 (-1))).setIfInBounds 52 (.int .u64 0)) 42 ∧ Blk wx (w.heap.size + 1) zero53 42 ∧ Below w.heap.size w wx) ⟨?_, ?_, ?_⟩ ?_
    · exact (((HM2.out.set 50 _).set 51 _).set 52 _)
    · exact (((HZ2.out.other hmne _).other hmne _).other hmne _)
    · exact (((hb2.setCell hmle _).setCell hmle _).setCell hmle _)
    rintro w3 ⟨hM3, hZ3, hb3⟩
    have hof := row_d5a d hk.out h3
    rw [show (((M0.setIfInBounds 50 (.int .i64 3)).setIfInBounds 51 (.int .i64 (-1))).setIfInBounds 52 (.int .u64 0)) = ((((two (kindD d) (d.n 0 % 16)).setIfInBounds 50 (.int .i64 3)).setIfInBounds 51 (.int .i64 (-1))).setIfInBounds 52 (.int .u64 0)) by rw [hM0.out]; rfl] at hM3
    have HZ3 := Lib.hid hZ3
    have Hof := Lib.hid hof
    have hone := Lib.hid (msg_one hof)
    have hsz := Lib.hid (msg_size _ hof.size)
    have hzs := Lib.hid (show zero53.size = ((((two (kindD d) (d.n 0 % 16)).setIfInBounds 50 (.int .i64 3)).setIfInBounds 51 (.int .i64 (-1))).setIfInBounds 52 (.int .u64 0)).size by rw [hof.size]; rfl)
    have hld := Lib.hid (run_load_row' (P := Try.prog) w3 mb 42 _ 42 _ hM3 Try.underlying42 rfl (msg_size _ hof.size))
    clear hM3 hZ3 hof
    generalize ((((two (kindD d) (d.n 0 % 16)).setIfInBounds 50 (.int .i64 3)).setIfInBounds 51 (.int .i64 (-1))).setIfInBounds 52 (.int .u64 0)) = MF at Hof hone hsz hzs hld
    go_wp2_with (first | (refine wpList_load_v rfl 42 _ rfl ⟨mb, 0, none⟩ rfl _ hld.out ?_) | (refine wpList_store_row2 rfl 42 _ _ rfl rfl (w.heap.size + 1) rfl zero53 MF 42 HZ3.out rfl (by exact hzs.out) hone.out hsz.out ?_; intro wz hBz hmz))
    (try simp only [Exit.inBlock, Exit.then])
    exact bodyPost_ret (results_cell_row rfl _ _ (w.heap.size + 1) _ _ _ _ rfl hBz Try.underlying42 rfl hsz.out) rfl ⟨MF, none, 0, rfl, hb3.trans (hmz.below hb3.size (fun _ h => by rw [h]; omega)), Hof.out, dr_none _ _ _ (by have := hk.out; omega)⟩
  · have i3 : (d.n 1 % 3 == 0) = false := by simpa using h3
    have i4 : (d.n 1 % 3 != 0) = true := by simpa using h3
    go_upto_region 21 with fail
    clear c50 c51 c52 hf s1 s2 s3 k21 kn1 kn2 kb0 i3 i4
    refine wp_world' (fun wx => Blk wx mb ((((((M0.setIfInBounds 50 (.int .i64 3)).setIfInBounds 51 (.int .i64 (-1))).setIfInBounds 52 (.int .u64 0)).setIfInBounds 50 (.int .i64 (2 + (d.n 1 % 3 / 2) * 2))).setIfInBounds 51 (.int .i64 (d.n 2 % 8))).setIfInBounds 52 (.int .u64 (d.big 0 % 16777217))) 42 ∧ Blk wx (w.heap.size + 1) zero53 42 ∧ Below w.heap.size w wx) ⟨?_, ?_, ?_⟩ ?_
    · exact ((((((HM2.out.set 50 _).set 51 _).set 52 _).set 50 _).set 51 _).set 52 _)
    · exact ((((((HZ2.out.other hmne _).other hmne _).other hmne _).other hmne _).other hmne _).other hmne _)
    · exact ((((((hb2.setCell hmle _).setCell hmle _).setCell hmle _).setCell hmle _).setCell hmle _).setCell hmle _)
    rintro w3 ⟨hM3, hZ3, hb3⟩
    have hof := row_d5b d hk.out h3
    rw [show ((((((M0.setIfInBounds 50 (.int .i64 3)).setIfInBounds 51 (.int .i64 (-1))).setIfInBounds 52 (.int .u64 0)).setIfInBounds 50 (.int .i64 (2 + (d.n 1 % 3 / 2) * 2))).setIfInBounds 51 (.int .i64 (d.n 2 % 8))).setIfInBounds 52 (.int .u64 (d.big 0 % 16777217))) = (((((((two (kindD d) (d.n 0 % 16)).setIfInBounds 50 (.int .i64 3)).setIfInBounds 51 (.int .i64 (-1))).setIfInBounds 52 (.int .u64 0)).setIfInBounds 50 (.int .i64 (2 + (d.n 1 % 3 / 2) * 2))).setIfInBounds 51 (.int .i64 (d.n 2 % 8))).setIfInBounds 52 (.int .u64 (d.big 0 % 16777217))) by rw [hM0.out]; rfl] at hM3
    have HZ3 := Lib.hid hZ3
    have Hof := Lib.hid hof
    have hone := Lib.hid (msg_one hof)
    have hsz := Lib.hid (msg_size _ hof.size)
    have hzs := Lib.hid (show zero53.size = (((((((two (kindD d) (d.n 0 % 16)).setIfInBounds 50 (.int .i64 3)).setIfInBounds 51 (.int .i64 (-1))).setIfInBounds 52 (.int .u64 0)).setIfInBounds 50 (.int .i64 (2 + (d.n 1 % 3 / 2) * 2))).setIfInBounds 51 (.int .i64 (d.n 2 % 8))).setIfInBounds 52 (.int .u64 (d.big 0 % 16777217))).size by rw [hof.size]; rfl)
    have hld := Lib.hid (run_load_row' (P := Try.prog) w3 mb 42 _ 42 _ hM3 Try.underlying42 rfl (msg_size _ hof.size))
    clear hM3 hZ3 hof
    generalize (((((((two (kindD d) (d.n 0 % 16)).setIfInBounds 50 (.int .i64 3)).setIfInBounds 51 (.int .i64 (-1))).setIfInBounds 52 (.int .u64 0)).setIfInBounds 50 (.int .i64 (2 + (d.n 1 % 3 / 2) * 2))).setIfInBounds 51 (.int .i64 (d.n 2 % 8))).setIfInBounds 52 (.int .u64 (d.big 0 % 16777217))) = MF at Hof hone hsz hzs hld
    go_wp2_with (first | (refine wpList_load_v rfl 42 _ rfl ⟨mb, 0, none⟩ rfl _ hld.out ?_) | (refine wpList_store_row2 rfl 42 _ _ rfl rfl (w.heap.size + 1) rfl zero53 MF 42 HZ3.out rfl (by exact hzs.out) hone.out hsz.out ?_; intro wz hBz hmz))
    (try simp only [Exit.inBlock, Exit.then])
    exact bodyPost_ret (results_cell_row rfl _ _ (w.heap.size + 1) _ _ _ _ rfl hBz Try.underlying42 rfl hsz.out) rfl ⟨MF, none, 0, rfl, hb3.trans (hmz.below hb3.size (fun _ h => by rw [h]; omega)), Hof.out, dr_none _ _ _ (by have := hk.out; omega)⟩
end Go.Proofs.Ytcipdimnbleljaa
