/-
  The document's side of layer 18: a draft's message, of kind 3.
-/
import Derived.Test.YtcipdimnbleljaaDm3P
import Derived.BigRegion
namespace Go.Proofs.Ytcipdimnbleljaa
open Go.RowKit
open Extern.Stop (cell)

theorem row_d3 (d : DV) (hk : kindD d = 3) (p : Option Addr) (cap : Nat) : MsgOf ((two (kindD d) (d.n 0 % 16)).setIfInBounds 47 (.slice p (msD d 8).length cap)) (msgD d p cap) := by
  have h := two_of (kindD d) (d.n 0 % 16)
  have hs := h.size
  refine ⟨by simp only [Array.size_setIfInBounds]; exact hs, ?_, ?_, ?_, ?_, ?_, ?_, ?_, ?_, ?_, ?_, ?_, ?_, ?_, ?_⟩
  · rw [set_ne (by omega)]; exact h.h0
  · rw [set_ne (by omega)]; exact h.h1
  · rw [set_ne (by omega), h.h2]; simp [msgD, hk, zeroM]
  · rw [set_ne (by omega), h.h3]; simp [msgD, hk, zeroM]
  · rw [set_ne (by omega), h.h4]; simp [msgD, hk, zeroM]
  · intro i hi
    rw [set_ne (by omega), h.h5 i hi]; simp [msgD, hk, zeroM]
  · intro i hi
    rw [set_ne (by omega), h.h15 i hi]; simp [msgD, hk, zeroM]
  · rw [show (msgD d p cap).dg = dg0 by simp [msgD, hk]]; decide
  · rw [set_eq (by omega)]; simp [msgD, hk]
  · rw [set_ne (by omega), h.h48]; simp [msgD, hk, zeroM]
  · rw [set_ne (by omega), h.h49]; simp [msgD, hk, zeroM]
  · rw [set_ne (by omega), h.h50]; simp [msgD, hk, zeroM]
  · rw [set_ne (by omega), h.h51]; simp [msgD, hk, zeroM]
  · rw [set_ne (by omega), h.h52]; simp [msgD, hk, zeroM]
theorem marks_d3 {d : DV} (hk : kindD d = 3) {p : Option Addr} {w : World} (cap : Nat) (h : MksAt w p (msD d 8)) : MarksAt w (msgD d p cap) := by
  have e : (msgD d p cap).ms = msD d 8 := by simp [msgD, hk]
  have ep : (msgD d p cap).p = p := by simp [msgD, hk]
  exact ⟨by rw [e, ep]; exact h.nil, by rw [e]; exact h.len, by rw [e]; exact h.big, by rw [e, ep]; exact h.cells⟩
set_option maxHeartbeats 2000000 in
set_option maxRecDepth 100000 in
theorem draft3_calls (C : Array Value) (d : DV) (w : World) (hC : DraftOf C d) (hR : DraftRg d) (hA : BysAt w d.p d.bs) (hk : kindD d = 3) : Calls Try.prog 10 #[.agg C] w (DrPost d w) := by
  have hc0 := hC.size
  have hkd := hR.kind
  have r0 := hR.n 0 (by omega)
  have r1 := hR.n 1 (by omega)
  have g0 := hC.h0
  have HN := Lib.hid (nrow_get hC)
  have hns : (C.extract 1 (1 + 8)).size = 8 := by simp; omega
  obtain ⟨NR, hNR⟩ : ∃ NR, C.extract 1 (1 + 8) = NR := ⟨_, rfl⟩
  rw [hNR] at HN hns
  have hone : ∀ v ∈ NR.toList, v.oneCell' = true := by
    intro v hv
    obtain ⟨i, hi, rfl⟩ := List.getElem_of_mem hv
    have hi' : i < 8 := by rw [← hns]; simpa using hi
    have := HN.out i hi'
    rw [Array.getElem?_eq_getElem (by omega)] at this
    have e : NR.toList[i] = .int .u16 (d.n i) := by simpa using this
    rw [e]; rfl
  go_enter Try.func10, Try.ntmps10
  go_upto_region 1 with fail
  refine wp_world' (fun wx => Blk wx w.heap.size C 28 ∧ Blk wx (w.heap.size + 1) zero53 42 ∧ wx.heap.size = w.heap.size + 2 ∧ Below w.heap.size w wx)
    ⟨(Blk.new w C _).alloc _, Blk.new' w _ _ _, by simp, ((Below.refl _ _).alloc (Nat.le_refl _) _).alloc (by simp) _⟩ ?_
  rintro w0 ⟨hB, hZ, hz, hb⟩
  have hld := Lib.hid (load_part (P := Try.prog) w0 _ C _ hB 1 8 (by omega) 23 _ Try.underlying23 rfl (by kernel_rfl))
  rw [hNR] at hld
  have hsn := Lib.hid (show (#[.int .u16 0, .int .u16 0, .int .u16 0, .int .u16 0, .int .u16 0, .int .u16 0, .int .u16 0, .int .u16 0] : Array Value).size = NR.size by rw [hns]; rfl)
  have Hone := Lib.hid hone
  have hzn := Lib.hid (show Blk (w0.alloc (.cells #[.int .u16 0, .int .u16 0, .int .u16 0, .int .u16 0, .int .u16 0, .int .u16 0, .int .u16 0, .int .u16 0] 23)) (w.heap.size + 2) #[.int .u16 0, .int .u16 0, .int .u16 0, .int .u16 0, .int .u16 0, .int .u16 0, .int .u16 0, .int .u16 0] 23 by rw [← hz]; exact Blk.new _ _ _)
  have hin := Lib.hid (show (Try.prog.info? 23).map (·.size) = some NR.size by rw [hns]; kernel_rfl)
  have HB := Lib.hid hB
  have HZ := Lib.hid hZ
  clear hone hns hNR hB hZ
  go_upto_region 2 with (first | (refine wpList_load_v rfl 23 _ rfl ⟨w.heap.size, 1, none⟩ rfl _ hld.out ?_) | (refine wpList_store_row2 rfl 23 _ _ rfl rfl (w.heap.size + 2) rfl _ NR 23 hzn.out rfl (by exact hsn.out) Hone.out hin.out ?_; intro w1 hN hmN))
  have hB1 := (HB.out.alloc (.cells #[.int .u16 0, .int .u16 0, .int .u16 0, .int .u16 0, .int .u16 0, .int .u16 0, .int .u16 0, .int .u16 0] 23)).mod hmN (by omega)
  have hZ1 := (HZ.out.alloc (.cells #[.int .u16 0, .int .u16 0, .int .u16 0, .int .u16 0, .int .u16 0, .int .u16 0, .int .u16 0, .int .u16 0] 23)).mod hmN (by omega)
  have hb1 := (hb.alloc hb.size (.cells #[.int .u16 0, .int .u16 0, .int .u16 0, .int .u16 0, .int .u16 0, .int .u16 0, .int .u16 0, .int .u16 0] 23)).trans (hmN.below (by simp; have := hb.size; omega) (by rintro x rfl; omega))
  have hz1 : w.heap.size + 3 ≤ w1.heap.size := by have := hmN.size; simp at this; omega
  clear HB HZ hb hld hzn hmN hz
  have hB := hB1
  have hZ := hZ1
  have hb := hb1
  clear hB1 hZ1 hb1
  have k0 := hB.cell g0
  have kn0 := hN.cell (HN.out 0 (by omega))
  have HB := Lib.hid hB
  have HZ := Lib.hid hZ
  have HN1 := Lib.hid hN
  have hk1 : 1 + d.kind % 5 = kindD d := rfl
  have q5 : 0 ≤ d.kind % 5 ∧ d.kind % 5 < 5 := by omega
  have q6 : 0 ≤ d.n 0 % 16 ∧ d.n 0 % 16 < 16 := by omega
  have hzM := Lib.hid (show Blk (w1.alloc (.cells zero53 42)) w1.heap.size zero53 42 from Blk.new _ _ _)
  have hs0 := Lib.hid (show zero53.size = ((zero53.setIfInBounds 0 (.int .i64 (1 + d.kind % 5))).setIfInBounds 1 (.int .i64 (d.n 0 % 16))).size by simp)
  have hs1 := Lib.hid (two_one (1 + d.kind % 5) (d.n 0 % 16))
  have hs2 := Lib.hid (msg_size ((zero53.setIfInBounds 0 (.int .i64 (1 + d.kind % 5))).setIfInBounds 1 (.int .i64 (d.n 0 % 16))) (by simp; rfl))
  have hru := Lib.hid (run_two (1 + d.kind % 5) (d.n 0 % 16))
  generalize hM0 : (zero53.setIfInBounds 0 (.int .i64 (1 + d.kind % 5))).setIfInBounds 1 (.int .i64 (d.n 0 % 16)) = M0 at hs0 hs1 hs2 hru
  replace hM0 := Lib.hid hM0
  replace hk1 := Lib.hid hk1
  replace hk := Lib.hid hk
  clear hB hZ hN
  go_upto_region 3 with (first | (refine wpList_build2_v rfl 42 0 1 _ _ rfl (.int .i64 (1 + d.kind % 5)) (.int .i64 (d.n 0 % 16)) rfl rfl (.agg M0) (hru.out _) ?_) | (refine wpList_store_row2 rfl 42 _ _ rfl rfl w1.heap.size rfl _ M0 42 hzM.out rfl (by exact hs0.out) hs1.out hs2.out ?_; intro w2 hM hmM))
  replace hmM : Mod (fun x => x = w1.heap.size) (w1.alloc (.cells zero53 42)) w2 := hmM
  have hz2 := hmM.size
  rw [show (w1.alloc (.cells zero53 42)).heap.size = w1.heap.size + 1 by simp] at hz2
  have hB2 := (HB.out.alloc (.cells zero53 42)).mod hmM (by have := HB.out.lt; omega)
  have hN2 := (HN1.out.alloc (.cells zero53 42)).mod hmM (by have := HN1.out.lt; omega)
  have HZ2 := Lib.hid ((HZ.out.alloc (.cells zero53 42)).mod hmM (by have := HZ.out.lt; omega))
  have hb2 := (hb.alloc hb.size (.cells zero53 42)).trans (hmM.below (by simp; have := hb.size; omega) (by rintro x rfl; exact hb.size))
  clear HB HZ HN1 hmM hzM hru hsn Hone hin
  obtain ⟨mb, hmb⟩ : ∃ mb, w1.heap.size = mb := ⟨_, rfl⟩
  rw [hmb] at hM hz2 hz1 ⊢
  have hmne : w.heap.size + 1 ≠ mb := by omega
  have hmle : w.heap.size ≤ mb := by omega
  replace hM0 := Lib.hid (hM0.out.symm)
  have hM0k : M0[0]? = some (.int .i64 3) := by rw [hM0.out, set_ne (by omega), set_eq (by decide), show 1 + d.kind % 5 = 3 from hk.out]
  have k21 := hM.cell hM0k
  clear hb k0 kn0
  have kn1 := hN2.cell (HN.out 1 (by omega))
  have hM0s : M0.size = 53 := by rw [hM0.out]; simp; rfl
  have h47 : M0[47]? = some (.slice none 0 0) := by rw [hM0.out]; rfl
  have hset : M0.setIfInBounds 47 (.slice none 0 0) = M0 := by
    apply Array.ext_getElem?
    intro i
    rw [Array.getElem?_setIfInBounds]
    by_cases e : 47 = i
    · subst e; rw [if_pos rfl, if_pos (by omega), h47]
    · rw [if_neg e]
  have HM2 := Lib.hid hM
  have HB2 := Lib.hid hB2
  have HN2 := Lib.hid hN2
  have Hset := Lib.hid hset
  have H47 := Lib.hid h47
  replace hM0s := Lib.hid hM0s
  clear hM hB2 hN2 hM0k hset h47
  go_wp2_with fail
  clear k21
  go_loopw [7] (fun i wr => ∃ k : Nat, k ≤ 8 ∧ i = .int .i64 k ∧ ∃ v, wr.ownsRow (mb + 1) 65 33 v (msD d k).length (mkCells (msD d k)) ∧ Blk wr mb (M0.setIfInBounds 47 v) 42 ∧ Blk wr w.heap.size C 28 ∧ Blk wr (w.heap.size + 1) zero53 42 ∧ Blk wr (w.heap.size + 2) NR 23 ∧ Below w.heap.size w wr) (fun i _ => 8 - (intOf i).toNat)
  case atStart => exact ⟨0, by omega, rfl, .slice none 0 0, ⟨rfl, .inl ⟨rfl, rfl⟩⟩, by rw [Hset.out]; exact HM2.out, HB2.out, HZ2.out, HN2.out, hb2⟩
  case round =>
    clear kn1
    obtain ⟨k, hk8, rfl, v, hown, hMr, hBr, hZr, hNr, hbr⟩ := hrel
    have kn1 := hNr.cell (HN.out 1 (by omega))
    by_cases hlt : k < 8
    · have s1 : (d.n 1 / 2 ^ k).tmod 2 = (d.n 1 / 2 ^ k) % 2 := Int.tmod_eq_emod_of_nonneg (Int.ediv_nonneg r1.1 (Int.le_of_lt (Int.pow_pos (by omega))))
      have HO := Lib.hid hown
      have HMr := Lib.hid hMr
      have HBr := Lib.hid hBr
      have HZr := Lib.hid hZr
      have HNr := Lib.hid hNr
      clear hown hMr hBr hZr hNr
      by_cases hon : onD d k = true
      · have i0 : (d.n 1 / 2 ^ k % 2 == 1) = true := hon
        go_wp2_with fail
        obtain ⟨R, hR0⟩ : ∃ R, dgL d.bs k 32 = R := ⟨_, rfl⟩
        have hRs : R.size = 32 := by rw [← hR0, dgL_size]
        have hdg : ∀ w', Below w.heap.size w w' → Calls Try.prog 22 #[.agg C, .int .i64 k] w' fun e w'' => e = .returned (.agg R) ∧ Below w'.heap.size w' w'' := fun w' h => by
          have := dgst_calls C d k w' hC (hA.below h) hlt
          rw [hR0] at this
          exact this
        have hMs := markA_size k R hRs
        have hM1 : ∀ u ∈ (markA k R).toList, u.oneCell' = true := by
          intro u hu
          simp only [markA, List.mem_cons] at hu
          rcases hu with rfl | hu
          · rfl
          · rw [← hR0] at hu; exact dgL_one _ _ _ u hu
        have hml := msD_len d k
        have hvs : ∃ p n c, v = .slice p n c := by
          rcases HO.out.2 with ⟨hv, _⟩ | ⟨g, cap, cur, hv, _⟩
          · exact ⟨_, _, _, hv⟩
          · exact ⟨_, _, _, hv⟩
        have hmsz : 47 < M0.size := by rw [hM0s.out]; omega
        have hm47 : ∀ u, (M0.setIfInBounds 47 u)[47]? = some u := fun u => by simp [hmsz]
        refine wp_region_tell ((0, undef) : Nat × Value) [7, 8, 10] (fun x => [(122, .pointer (some ⟨mb, 47, none⟩)), (123, v), (124, .int .i64 k), (125, .agg C), (126, .int .i64 k), (127, .agg R), (128, .agg (markA k R)), (131, .pointer (some ⟨mb, 47, none⟩))] ++ ([(129, .slice (some ⟨x.1, 0, none⟩) 1 1)] ++ [(130, x.2)]))
          (ClK C NR M0 (markA k R) w mb v (msD d k).length (mkCells (msD d k)))
          (by kernel_rfl) (by kernel_rfl) (by kernel_rfl) (by kernel_rfl) (by kernel_rfl) (fun x => by kernel_rfl) ⟨HMr.out.drew, HBr.out.drew, HZr.out.drew, HNr.out.drew, hbr.drew, fun _ => HO.out, (fun h => by cases h), (fun h => by omega)⟩ ?_ ?_
        · intro aF hAF
          have E1 : ∀ x, (aF x).eval (.tmp 1) = .pointer (some ⟨w.heap.size, 0, none⟩) := by intro x; rw [hAF]; kernel_rfl
          have E4 : ∀ x, (aF x).eval (.tmp 4) = .pointer (some ⟨mb, 0, none⟩) := by intro x; rw [hAF]; kernel_rfl
          have E7 : ∀ x, (aF x).eval (.tmp 7) = .int .i64 k := by intro x; rw [hAF]; kernel_rfl
          have T122 : ∀ x, (aF x).tmps[122]? = some (.pointer (some ⟨mb, 47, none⟩)) := by intro x; rw [hAF]; kernel_rfl
          have E122 : ∀ x, (aF x).eval (.tmp 122) = (.pointer (some ⟨mb, 47, none⟩)) := by intro x; rw [hAF]; kernel_rfl
          have T123 : ∀ x, (aF x).tmps[123]? = some (v) := by intro x; rw [hAF]; kernel_rfl
          have E123 : ∀ x, (aF x).eval (.tmp 123) = (v) := by intro x; rw [hAF]; kernel_rfl
          have T124 : ∀ x, (aF x).tmps[124]? = some (.int .i64 k) := by intro x; rw [hAF]; kernel_rfl
          have E124 : ∀ x, (aF x).eval (.tmp 124) = (.int .i64 k) := by intro x; rw [hAF]; kernel_rfl
          have T125 : ∀ x, (aF x).tmps[125]? = some (.agg C) := by intro x; rw [hAF]; kernel_rfl
          have E125 : ∀ x, (aF x).eval (.tmp 125) = (.agg C) := by intro x; rw [hAF]; kernel_rfl
          have T126 : ∀ x, (aF x).tmps[126]? = some (.int .i64 k) := by intro x; rw [hAF]; kernel_rfl
          have E126 : ∀ x, (aF x).eval (.tmp 126) = (.int .i64 k) := by intro x; rw [hAF]; kernel_rfl
          have T127 : ∀ x, (aF x).tmps[127]? = some (.agg R) := by intro x; rw [hAF]; kernel_rfl
          have E127 : ∀ x, (aF x).eval (.tmp 127) = (.agg R) := by intro x; rw [hAF]; kernel_rfl
          have T128 : ∀ x, (aF x).tmps[128]? = some (.agg (markA k R)) := by intro x; rw [hAF]; kernel_rfl
          have E128 : ∀ x, (aF x).eval (.tmp 128) = (.agg (markA k R)) := by intro x; rw [hAF]; kernel_rfl
          have T129 : ∀ x, (aF x).tmps[129]? = some (.slice (some ⟨x.1, 0, none⟩) 1 1) := by intro x; rw [hAF]; kernel_rfl
          have E129 : ∀ x, (aF x).eval (.tmp 129) = (.slice (some ⟨x.1, 0, none⟩) 1 1) := by intro x; rw [hAF]; kernel_rfl
          have T130 : ∀ x, (aF x).tmps[130]? = some (x.2) := by intro x; rw [hAF]; kernel_rfl
          have E130 : ∀ x, (aF x).eval (.tmp 130) = (x.2) := by intro x; rw [hAF]; kernel_rfl
          have T131 : ∀ x, (aF x).tmps[131]? = some (.pointer (some ⟨mb, 47, none⟩)) := by intro x; rw [hAF]; kernel_rfl
          have E131 : ∀ x, (aF x).eval (.tmp 131) = (.pointer (some ⟨mb, 47, none⟩)) := by intro x; rw [hAF]; kernel_rfl
          replace hAF := Lib.hid hAF
          refine ⟨?_, ?_, ?_, ?_, ?_, ?_, ?_, ?_, ?_, ?_, ?_, trivial⟩
          · exact opOk2_quiet _ (by intro x d hd _; cases hd; exact T122 x) (fun _ => rfl) (by decide) fun x s w' hc => sv (run_fld 7 47 rfl (E4 x) (fun w => by kernel_rfl)) hc
          · exact opOk2_ahead 1 _ (by intro x d hd _; cases hd; exact T123 x) (fun _ => rfl) (by decide) (by kernel_rfl) (by kernel_rfl) fun x s w' hs hc => sv (run_load1 rfl (E122 x) (by
              obtain ⟨p, n, c, rfl⟩ := hvs
              have h := hc.m
              rw [if_neg (by omega)] at h
              exact run_sl38 (h.cell (hm47 _)))) hc
          · exact opOk2_quiet _ (by intro x d hd _; cases hd; exact T124 x) (fun _ => rfl) (by decide) fun x s w' hc => sv (run_mov3 rfl (E7 x)) hc
          · exact opOk2_quiet _ (by intro x d hd _; cases hd; exact T125 x) (fun _ => rfl) (by decide) fun x s w' hc => sv (run_load1 rfl (E1 x) (run_load_row' w' w.heap.size 28 C _ _ hc.b Try.underlying28 rfl (by rw [hc0]; kernel_rfl))) hc
          · exact opOk2_quiet _ (by intro x d hd _; cases hd; exact T126 x) (fun _ => rfl) (by decide) fun x s w' hc => sv (run_mov3 rfl (E7 x)) hc
          · exact opOk2_quiet _ (by intro x d hd _; cases hd; exact T127 x) (fun _ => rfl) (by decide) fun x s w' hc => sc (run_calldk rfl (E125 x) (E126 x) rfl) ((hdg w' hc.low).mono fun e w'' h => ⟨h.1, hc.below h.2⟩)
          · exact opOk2_quiet _ (by intro x d hd _; cases hd; exact T128 x) (fun _ => rfl) (by decide) fun x s w' hc => sv (run_buildM rfl (E124 x) (E127 x) hRs) hc
          · exact opOk2_chain 0 rfl rfl (by decide) fun x w' hc => by
              rw [run_sliceM rfl (E128 x) hRs]
              exact ⟨(w'.heap.size, x.2), (by rw [hAF.out]; exact agree_any (by kernel_rfl) (by kernel_rfl)), (by intro d hd _; cases hd; exact T129 _), hc.made⟩
          · exact opOk2_chain 1 rfl rfl (by decide) fun x w' hc => by
              refine upon_appM (mb + 1) (by have := hc.m.lt; omega) v (msD d k).length (mkCells (msD d k)) rfl (E123 x) (hc.own (by omega)) (by omega) x.1 (markA k R) (E129 x) (hc.row rfl) hMs hM1 fun v' w'' h2 h3 => ?_
              exact ⟨(x.1, v'), (by rw [hAF.out]; exact agree_any2 (by kernel_rfl) (by kernel_rfl)), (by intro d hd _; cases hd; exact T130 _), hc.appended h2 h3 hz1⟩
          · exact opOk2_quiet _ (by intro x d hd _; cases hd; exact T131 x) (fun _ => rfl) (by decide) fun x s w' hc => sv (run_fld 7 47 rfl (E4 x) (fun w => by kernel_rfl)) hc
          · exact opOk2_chain 2 rfl rfl (by decide) fun x w' hc => by
              obtain ⟨p, n, c, e⟩ : ∃ p n c, x.2 = .slice p n c := by
                rcases (hc.own2 (by omega)).2 with ⟨hv, _⟩ | ⟨g, cap, cur, hv, _⟩
                · exact ⟨_, _, _, hv⟩
                · exact ⟨_, _, _, hv⟩
              have hcm : Blk w' mb (M0.setIfInBounds 47 v) 42 := hc.m
              rw [run_store38 rfl (E131 x) ((E130 x).trans e) (hcm.cell (hm47 _)) (hcm.froz 47), ← e]
              exact ⟨x, agree_same _ _, (by intro d hd; cases hd), hc.stored hz1⟩
        · intro x w5 hc
          simp only [putAll, List.foldl_cons, List.foldl_nil, List.cons_append, List.nil_append, Act.put, List.setIfInBounds_toArray, List.set_cons_succ, List.set_cons_zero]
          have hfin := Lib.hid (hc.own2 (by show 2 ≤ 3; omega))
          have HM5 := Lib.hid hc.m
          have HB5 := Lib.hid hc.b
          have HZ5 := Lib.hid hc.z
          have HN5 := Lib.hid hc.nr
          have hb5 := hc.low
          have e : msD d (k + 1) = msD d k ++ [((k : Int), dgU d.bs k)] := by rw [msD_succ, if_pos hon]
          have em : mkCells (msD d (k + 1)) = mkCells (msD d k) ++ (markA k R).toList := by
            rw [e, mkCells_append, ← hR0, dgU_cells]
            simp [mkCells, markRow, markA]
          replace e := Lib.hid e
          replace em := Lib.hid em
          clear hc hvs hm47 hmsz hM1 hMs hdg hR0 hRs hon
          go_wp2_with fail
          go_roundw
          case rel => exact ⟨k + 1, by omega, by go_num, x.2, by rw [em.out, e.out, List.length_append]; exact hfin.out, HM5.out, HB5.out, HZ5.out, HN5.out, hb5⟩
          case measure => simp [intOf]; omega
      · have hon' : onD d k = false := by simpa using hon
        have i0 : (d.n 1 / 2 ^ k % 2 == 1) = false := hon'
        have e : msD d (k + 1) = msD d k := by rw [msD_succ, hon']; simp
        replace e := Lib.hid e
        clear hon hon'
        go_wp2_with fail
        go_roundw
        case rel => exact ⟨k + 1, by omega, by go_num, v, by rw [e.out]; exact HO.out, HMr.out, HBr.out, HZr.out, HNr.out, hbr⟩
        case measure => simp [intOf]; omega
    · obtain rfl : k = 8 := by omega
      obtain ⟨p, cap, rfl, hks, hpb⟩ := mks_of_own hown (msD_digest d 8) (by have := msD_len d 8; omega)
      have hof := row_d3 d hk.out p cap
      obtain ⟨MF, hMF⟩ : ∃ MF, M0.setIfInBounds 47 (.slice p (msD d 8).length cap) = MF := ⟨_, rfl⟩
      rw [show (two (kindD d) (d.n 0 % 16)) = M0 by rw [hM0.out]; rfl, hMF] at hof
      rw [hMF] at hMr
      have HZ3 := Lib.hid hZr
      have Hof := Lib.hid hof
      have Hks := Lib.hid (marks_d3 hk.out cap hks)
      have hone := Lib.hid (msg_one hof)
      have hsz := Lib.hid (msg_size _ hof.size)
      have hzs := Lib.hid (show zero53.size = MF.size from hof.size.symm)
      have hld := Lib.hid (run_load_row' (P := Try.prog) wr mb 42 _ 42 _ hMr Try.underlying42 rfl (msg_size _ hof.size))
      replace hpb := Lib.hid hpb
      clear hMr hZr hof hMF hown hks hBr hNr
      go_wp2_with (first | (refine wpList_load_v rfl 42 _ rfl ⟨mb, 0, none⟩ rfl _ hld.out ?_) | (refine wpList_store_row2 rfl 42 _ _ rfl rfl (w.heap.size + 1) rfl zero53 MF 42 HZ3.out rfl (by exact hzs.out) hone.out hsz.out ?_; intro wz hBz hmz))
      (try simp only [Exit.inBlock, Exit.then])
      exact bodyPost_ret (results_cell_row rfl _ _ (w.heap.size + 1) _ _ _ _ rfl hBz Try.underlying42 rfl hsz.out) rfl ⟨MF, p, cap, rfl, hbr.trans (hmz.below hbr.size (fun _ h => by rw [h]; omega)), Hof.out, Hks.out.mod hmz (fun a ha => by
        have e : (msgD d p cap).p = p := by simp [msgD, hk.out]
        rw [e] at ha
        have := hpb.out a ha
        show ¬ a.block = w.heap.size + 1
        omega), fun q hq => by have := hpb.out q hq; omega⟩
end Go.Proofs.Ytcipdimnbleljaa
