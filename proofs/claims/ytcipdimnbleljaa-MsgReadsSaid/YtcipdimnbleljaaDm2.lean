/-
  The document's side of layer 18: a draft's message, of kind 2.
-/
import Derived.Test.YtcipdimnbleljaaDmQ
import Derived.BigRegion
namespace Go.Proofs.Ytcipdimnbleljaa
open Go.RowKit
open Extern.Stop (cell)

set_option maxHeartbeats 2000000 in
set_option maxRecDepth 100000 in
theorem draft2_calls (C : Array Value) (d : DV) (w : World) (hC : DraftOf C d) (hR : DraftRg d) (hA : BysAt w d.p d.bs) (hk : kindD d = 2) : Calls Try.prog 10 #[.agg C] w (DrPost d w) := by
  have hc0 := hC.size
  have hkd := hR.kind
  have r0 := hR.n 0 (by omega)
  have r1 := hR.n 1 (by omega)
  have g0 := hC.h0
  have HN := Lib.hid (nrow_get hC)
  have hns : (C.extract 1 (1 + 8)).size = 8 := by simp; omega
  obtain ⟨NR, hNR⟩ : ∃ NR, C.extract 1 (1 + 8) = NR := ⟨_, rfl⟩
  rw [hNR] at HN hns
  have hone : ∀ v ∈ NR.toList, v.oneCell' = true := by
    intro v hv
    obtain ⟨i, hi, rfl⟩ := List.getElem_of_mem hv
    have hi' : i < 8 := by rw [← hns]; simpa using hi
    have := HN.out i hi'
    rw [Array.getElem?_eq_getElem (by omega)] at this
    have e : NR.toList[i] = .int .u16 (d.n i) := by simpa using this
    rw [e]; rfl
  go_enter Try.func10, Try.ntmps10
  go_upto_region 1 with fail
  refine wp_world' (fun wx => Blk wx w.heap.size C 28 ∧ Blk wx (w.heap.size + 1) zero53 42 ∧ wx.heap.size = w.heap.size + 2 ∧ Below w.heap.size w wx)
    ⟨(Blk.new w C _).alloc _, Blk.new' w _ _ _, by simp, ((Below.refl _ _).alloc (Nat.le_refl _) _).alloc (by simp) _⟩ ?_
  rintro w0 ⟨hB, hZ, hz, hb⟩
  have hld := Lib.hid (load_part (P := Try.prog) w0 _ C _ hB 1 8 (by omega) 23 _ Try.underlying23 rfl (by kernel_rfl))
  rw [hNR] at hld
  have hsn := Lib.hid (show (#[.int .u16 0, .int .u16 0, .int .u16 0, .int .u16 0, .int .u16 0, .int .u16 0, .int .u16 0, .int .u16 0] : Array Value).size = NR.size by rw [hns]; rfl)
  have Hone := Lib.hid hone
  have hzn := Lib.hid (show Blk (w0.alloc (.cells #[.int .u16 0, .int .u16 0, .int .u16 0, .int .u16 0, .int .u16 0, .int .u16 0, .int .u16 0, .int .u16 0] 23)) (w.heap.size + 2) #[.int .u16 0, .int .u16 0, .int .u16 0, .int .u16 0, .int .u16 0, .int .u16 0, .int .u16 0, .int .u16 0] 23 by rw [← hz]; exact Blk.new _ _ _)
  have hin := Lib.hid (show (Try.prog.info? 23).map (·.size) = some NR.size by rw [hns]; kernel_rfl)
  have HB := Lib.hid hB
  have HZ := Lib.hid hZ
  clear hone hns hNR hB hZ
  go_upto_region 2 with (first | (refine wpList_load_v rfl 23 _ rfl ⟨w.heap.size, 1, none⟩ rfl _ hld.out ?_) | (refine wpList_store_row2 rfl 23 _ _ rfl rfl (w.heap.size + 2) rfl _ NR 23 hzn.out rfl (by exact hsn.out) Hone.out hin.out ?_; intro w1 hN hmN))
  have hB1 := (HB.out.alloc (.cells #[.int .u16 0, .int .u16 0, .int .u16 0, .int .u16 0, .int .u16 0, .int .u16 0, .int .u16 0, .int .u16 0] 23)).mod hmN (by omega)
  have hZ1 := (HZ.out.alloc (.cells #[.int .u16 0, .int .u16 0, .int .u16 0, .int .u16 0, .int .u16 0, .int .u16 0, .int .u16 0, .int .u16 0] 23)).mod hmN (by omega)
  have hb1 := (hb.alloc hb.size (.cells #[.int .u16 0, .int .u16 0, .int .u16 0, .int .u16 0, .int .u16 0, .int .u16 0, .int .u16 0, .int .u16 0] 23)).trans (hmN.below (by simp; have := hb.size; omega) (by rintro x rfl; omega))
  have hz1 : w.heap.size + 3 ≤ w1.heap.size := by have := hmN.size; simp at this; omega
  clear HB HZ hb hld hzn hmN hz
  have hB := hB1
  have hZ := hZ1
  have hb := hb1
  clear hB1 hZ1 hb1
  have k0 := hB.cell g0
  have kn0 := hN.cell (HN.out 0 (by omega))
  have HB := Lib.hid hB
  have HZ := Lib.hid hZ
  have HN1 := Lib.hid hN
  have hk1 : 1 + d.kind % 5 = kindD d := rfl
  have q5 : 0 ≤ d.kind % 5 ∧ d.kind % 5 < 5 := by omega
  have q6 : 0 ≤ d.n 0 % 16 ∧ d.n 0 % 16 < 16 := by omega
  have hzM := Lib.hid (show Blk (w1.alloc (.cells zero53 42)) w1.heap.size zero53 42 from Blk.new _ _ _)
  have hs0 := Lib.hid (show zero53.size = ((zero53.setIfInBounds 0 (.int .i64 (1 + d.kind % 5))).setIfInBounds 1 (.int .i64 (d.n 0 % 16))).size by simp)
  have hs1 := Lib.hid (two_one (1 + d.kind % 5) (d.n 0 % 16))
  have hs2 := Lib.hid (msg_size ((zero53.setIfInBounds 0 (.int .i64 (1 + d.kind % 5))).setIfInBounds 1 (.int .i64 (d.n 0 % 16))) (by simp; rfl))
  have hru := Lib.hid (run_two (1 + d.kind % 5) (d.n 0 % 16))
  generalize hM0 : (zero53.setIfInBounds 0 (.int .i64 (1 + d.kind % 5))).setIfInBounds 1 (.int .i64 (d.n 0 % 16)) = M0 at hs0 hs1 hs2 hru
  replace hM0 := Lib.hid hM0
  replace hk1 := Lib.hid hk1
  replace hk := Lib.hid hk
  clear hB hZ hN
  go_upto_region 3 with (first | (refine wpList_build2_v rfl 42 0 1 _ _ rfl (.int .i64 (1 + d.kind % 5)) (.int .i64 (d.n 0 % 16)) rfl rfl (.agg M0) (hru.out _) ?_) | (refine wpList_store_row2 rfl 42 _ _ rfl rfl w1.heap.size rfl _ M0 42 hzM.out rfl (by exact hs0.out) hs1.out hs2.out ?_; intro w2 hM hmM))
  replace hmM : Mod (fun x => x = w1.heap.size) (w1.alloc (.cells zero53 42)) w2 := hmM
  have hz2 := hmM.size
  rw [show (w1.alloc (.cells zero53 42)).heap.size = w1.heap.size + 1 by simp] at hz2
  have hB2 := (HB.out.alloc (.cells zero53 42)).mod hmM (by have := HB.out.lt; omega)
  have hN2 := (HN1.out.alloc (.cells zero53 42)).mod hmM (by have := HN1.out.lt; omega)
  have HZ2 := Lib.hid ((HZ.out.alloc (.cells zero53 42)).mod hmM (by have := HZ.out.lt; omega))
  have hb2 := (hb.alloc hb.size (.cells zero53 42)).trans (hmM.below (by simp; have := hb.size; omega) (by rintro x rfl; exact hb.size))
  clear HB HZ HN1 hmM hzM hru hsn Hone hin
  obtain ⟨mb, hmb⟩ : ∃ mb, w1.heap.size = mb := ⟨_, rfl⟩
  rw [hmb] at hM hz2 hz1 ⊢
  have hmne : w.heap.size + 1 ≠ mb := by omega
  have hmle : w.heap.size ≤ mb := by omega
  replace hM0 := Lib.hid (hM0.out.symm)
  have hM0k : M0[0]? = some (.int .i64 2) := by rw [hM0.out, set_ne (by omega), set_eq (by decide), show 1 + d.kind % 5 = 2 from hk.out]
  have k21 := hM.cell hM0k
  clear hb k0 kn0
  have hM0s : M0.size = 53 := by rw [hM0.out]; simp; rfl
  have q1 : 0 ≤ d.n 1 % 8 ∧ d.n 1 % 8 < 8 := by omega
  have HM2 := Lib.hid hM
  have HB2 := Lib.hid hB2
  have HN2 := Lib.hid hN2
  clear hM hB2 hN2 hM0k
  go_wp2_with fail
  obtain ⟨R, hR0⟩ : ∃ R, dgL d.bs 0 32 = R := ⟨_, rfl⟩
  have hRs : R.size = 32 := by rw [← hR0, dgL_size]
  have hR1 : ∀ v ∈ R.toList, v.oneCell' = true := by rw [← hR0]; exact dgL_one _ _ _
  have hdg : ∀ w', Below w.heap.size w w' → Calls Try.prog 22 #[.agg C, .int .i64 0] w' fun e w'' => e = .returned (.agg R) ∧ Below w'.heap.size w' w'' := fun w' h => by
    have := dgst_calls C d 0 w' hC (hA.below h) (by omega)
    rw [hR0] at this
    exact this
  refine wp_region_puts [7, 9] [(101, .pointer (some ⟨w.heap.size + 2, 1, none⟩)), (102, .int .u16 (d.n 1)), (103, .int .u16 (d.n 1 % 8)), (104, .int .i64 (d.n 1 % 8)), (105, .agg C), (106, .agg R), (107, .pointer (some ⟨mb, 2, none⟩)), (108, .pointer (some ⟨mb, 15, none⟩))]
    (ClD2 C NR M0 (M0.setIfInBounds 2 (.int .i64 (d.n 1 % 8))) ((M0.setIfInBounds 2 (.int .i64 (d.n 1 % 8))).toList.take 15 ++ R.toList ++ (M0.setIfInBounds 2 (.int .i64 (d.n 1 % 8))).toList.drop (15 + R.size)).toArray w mb)
    (by kernel_rfl) (by kernel_rfl) (by kernel_rfl) (by kernel_rfl) (by kernel_rfl) ⟨HM2.out.drew, HB2.out.drew, HZ2.out.drew, HN2.out.drew, hb2.drew⟩ ?_ ?_
  · intro aF hAF
    have E3 : aF.eval (.tmp 3) = .pointer (some ⟨w.heap.size + 2, 0, none⟩) := by rw [← hAF]; kernel_rfl
    have E1 : aF.eval (.tmp 1) = .pointer (some ⟨w.heap.size, 0, none⟩) := by rw [← hAF]; kernel_rfl
    have E4 : aF.eval (.tmp 4) = .pointer (some ⟨mb, 0, none⟩) := by rw [← hAF]; kernel_rfl
    have T101 : aF.tmps[101]? = some (.pointer (some ⟨w.heap.size + 2, 1, none⟩)) := by rw [← hAF]; kernel_rfl
    have E101 : aF.eval (.tmp 101) = .pointer (some ⟨w.heap.size + 2, 1, none⟩) := by rw [← hAF]; kernel_rfl
    have T102 : aF.tmps[102]? = some (.int .u16 (d.n 1)) := by rw [← hAF]; kernel_rfl
    have E102 : aF.eval (.tmp 102) = .int .u16 (d.n 1) := by rw [← hAF]; kernel_rfl
    have T103 : aF.tmps[103]? = some (.int .u16 (d.n 1 % 8)) := by rw [← hAF]; kernel_rfl
    have E103 : aF.eval (.tmp 103) = .int .u16 (d.n 1 % 8) := by rw [← hAF]; kernel_rfl
    have T104 : aF.tmps[104]? = some (.int .i64 (d.n 1 % 8)) := by rw [← hAF]; kernel_rfl
    have E104 : aF.eval (.tmp 104) = .int .i64 (d.n 1 % 8) := by rw [← hAF]; kernel_rfl
    have T105 : aF.tmps[105]? = some (.agg C) := by rw [← hAF]; kernel_rfl
    have E105 : aF.eval (.tmp 105) = .agg C := by rw [← hAF]; kernel_rfl
    have T106 : aF.tmps[106]? = some (.agg R) := by rw [← hAF]; kernel_rfl
    have E106 : aF.eval (.tmp 106) = .agg R := by rw [← hAF]; kernel_rfl
    have T107 : aF.tmps[107]? = some (.pointer (some ⟨mb, 2, none⟩)) := by rw [← hAF]; kernel_rfl
    have E107 : aF.eval (.tmp 107) = .pointer (some ⟨mb, 2, none⟩) := by rw [← hAF]; kernel_rfl
    have T108 : aF.tmps[108]? = some (.pointer (some ⟨mb, 15, none⟩)) := by rw [← hAF]; kernel_rfl
    have E108 : aF.eval (.tmp 108) = .pointer (some ⟨mb, 15, none⟩) := by rw [← hAF]; kernel_rfl
    clear hAF
    refine ⟨?_, ?_, ?_, ?_, ?_, ?_, ?_, ?_, ?_, ?_, trivial⟩
    · exact opOk_quiet _ (by intro d hd _; cases hd; exact T101) rfl (by decide) fun k w' hc => sv (run_idx8 1 (by omega) rfl E3 (fun _ => rfl)) hc
    · exact opOk_quiet _ (by intro d hd _; cases hd; exact T102) rfl (by decide) fun k w' hc => sv (run_load1 rfl E101 (run_u16 (hc.2.2.2.1.cell (HN.out 1 (by omega))))) hc
    · exact opOk_quiet _ (by intro d hd _; cases hd; exact T103) rfl (by decide) fun k w' hc => sv (run_rem16 8 (by omega) r1 rfl E102 (fun _ => rfl)) hc
    · exact opOk_quiet _ (by intro d hd _; cases hd; exact T104) rfl (by decide) fun k w' hc => sv (run_conv16 (by omega) rfl E103) hc
    · exact opOk_quiet _ (by intro d hd _; cases hd; exact T105) rfl (by decide) fun k w' hc => sv (run_load1 rfl E1 (run_load_row' w' w.heap.size 28 C _ _ hc.2.1 Try.underlying28 rfl (by rw [hc0]; kernel_rfl))) hc
    · exact opOk_quiet _ (by intro d hd _; cases hd; exact T106) rfl (by decide) fun k w' hc => sc (run_calldg rfl E105 (fun _ => rfl) rfl) ((hdg w' hc.2.2.2.2).mono fun e w'' h => ⟨h.1, hc.below h.2⟩)
    · exact opOk_quiet _ (by intro d hd _; cases hd; exact T107) rfl (by decide) fun k w' hc => sv (run_fld 2 2 rfl E4 (fun w => by kernel_rfl)) hc
    · exact opOk_chain 0 undef (by intro d hd; cases hd) rfl rfl (by decide) fun w' hc => ss (run_store1 rfl E107 E104 (hc.1.cell (Array.getElem?_eq_getElem (by show 2 < M0.size; omega))) (hc.1.froz 2))
        ⟨hc.1.set 2 _, hc.2.1.other (by show w.heap.size ≠ mb; omega) _, hc.2.2.1.other hmne _, hc.2.2.2.1.other (by show w.heap.size + 2 ≠ mb; omega) _, hc.2.2.2.2.setCell hmle _⟩
    · exact opOk_quiet _ (by intro d hd _; cases hd; exact T108) rfl (by decide) fun k w' hc => sv (run_fld 6 15 rfl E4 (fun w => by kernel_rfl)) hc
    · exact opOk_chain 1 undef (by intro d hd; cases hd) rfl rfl (by decide) fun w' hc => by
        have hm : Blk w' mb (M0.setIfInBounds 2 (.int .i64 (d.n 1 % 8))) 42 := hc.1
        have hms : 15 + R.size ≤ (M0.setIfInBounds 2 (.int .i64 (d.n 1 % 8))).size := by rw [Array.size_setIfInBounds]; omega
        have hmod : ∀ X, Mod (fun x => x = mb) w' (w'.setRow mb X) := fun X => ⟨rfl, rfl, rfl, by simp [World.setRow], fun k _ hk => setRow_other w' mb k _ hk⟩
        exact ss (run_storeP rfl E108 E106 (run_storeVar_part w' mb 15 37 _ R _ hm hms hR1 (by rw [hRs]; kernel_rfl)))
          ⟨setRow_heap w' mb _ _ _ (0, 0) hm, hc.2.1.mod (hmod _) (by show ¬ w.heap.size = mb; omega), hc.2.2.1.mod (hmod _) hmne, hc.2.2.2.1.mod (hmod _) (by show ¬ w.heap.size + 2 = mb; omega), hc.2.2.2.2.trans ((hmod _).below hc.2.2.2.2.size (by rintro x rfl; exact hmle))⟩
  · intro w5 hc
    simp only [putAll, List.foldl_cons, List.foldl_nil, Act.put, List.setIfInBounds_toArray, List.set_cons_succ, List.set_cons_zero]
    go_upto_region 21 with fail
    obtain ⟨hM3, -, hZ3, -, hb3⟩ := hc
    replace hM3 : Blk w5 mb ((M0.setIfInBounds 2 (.int .i64 (d.n 1 % 8))).toList.take 15 ++ R.toList ++ (M0.setIfInBounds 2 (.int .i64 (d.n 1 % 8))).toList.drop (15 + R.size)).toArray 42 := hM3
    have hof : MsgOf ((M0.setIfInBounds 2 (.int .i64 (d.n 1 % 8))).toList.take 15 ++ R.toList ++ (M0.setIfInBounds 2 (.int .i64 (d.n 1 % 8))).toList.drop (15 + R.size)).toArray (msgD d none 0) := by
      have hms : 15 + R.size ≤ (M0.setIfInBounds 2 (.int .i64 (d.n 1 % 8))).size := by rw [Array.size_setIfInBounds]; omega
      refine row_d2 d hk.out (by rw [splice_size _ _ _ hms, Array.size_setIfInBounds]; exact hM0s) (fun i => ?_)
      rw [splice_get _ _ _ hms, hRs, ← hR0, hM0.out]
      rfl
    have HZ3 := Lib.hid hZ3
    have Hof := Lib.hid hof
    have hone := Lib.hid (msg_one hof)
    have hsz := Lib.hid (msg_size _ hof.size)
    have hzs := Lib.hid (show zero53.size = _ from hof.size.symm)
    have hld := Lib.hid (run_load_row' (P := Try.prog) w5 mb 42 _ 42 _ hM3 Try.underlying42 rfl (msg_size _ hof.size))
    clear hM3 hZ3 hof hdg hR0 hRs hR1 k21
    generalize ((M0.setIfInBounds 2 (.int .i64 (d.n 1 % 8))).toList.take 15 ++ R.toList ++ (M0.setIfInBounds 2 (.int .i64 (d.n 1 % 8))).toList.drop (15 + R.size)).toArray = MF at Hof hone hsz hzs hld
    go_wp2_with (first | (refine wpList_load_v rfl 42 _ rfl ⟨mb, 0, none⟩ rfl _ hld.out ?_) | (refine wpList_store_row2 rfl 42 _ _ rfl rfl (w.heap.size + 1) rfl zero53 MF 42 HZ3.out rfl (by exact hzs.out) hone.out hsz.out ?_; intro wz hBz hmz))
    (try simp only [Exit.inBlock, Exit.then])
    exact bodyPost_ret (results_cell_row rfl _ _ (w.heap.size + 1) _ _ _ _ rfl hBz Try.underlying42 rfl hsz.out) rfl ⟨MF, none, 0, rfl, hb3.trans (hmz.below hb3.size (fun _ h => by rw [h]; omega)), Hof.out, dr_none _ _ _ (by have := hk.out; omega)⟩
end Go.Proofs.Ytcipdimnbleljaa
