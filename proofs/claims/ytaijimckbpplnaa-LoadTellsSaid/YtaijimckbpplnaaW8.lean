/-
  The examples of the chapter on loads: they come out ('works' of the statements of layer 8).
-/
import Derived.Test.YtaijimckbpplnaaTb
namespace Go.Proofs.Ytaijimckbpplnaa
open Go.RowKit

theorem els_blk {w : World} {g n : Nat} {C : Array Value} {E : TypeId} {R : List (List Value)} (hB : Blk w g C E) (hC : ∀ (j : Nat) (u : Value), R.flatten[j]? = some u → C[j]? = some u) (hl : ∀ x ∈ R, x.length = n) (hb : R.length ≤ 140737488351232) : Els w (some ⟨g, 0, none⟩) n R :=
  ⟨fun e => (by cases e), hl, hb, fun a ha k x j v hk hj => by
    cases ha
    rw [add0]
    exact hB.cell (hC _ _ (flat_at R k j x v hl hk hj))⟩
theorem els_lit {w : World} {g n : Nat} {E : TypeId} {R : List (List Value)} (hB : Blk w g R.flatten.toArray E) (hl : ∀ x ∈ R, x.length = n) (hb : R.length ≤ 140737488351232) : Els w (some ⟨g, 0, none⟩) n R :=
  els_blk hB (fun j u h => by simpa using h) hl hb
theorem res_c {P : Program} {fn : Func} {p : Tmp} {ty : TypeId} (h : fn.results = #[.cell p ty]) {tmps : Array Value} {w : World} {g : Nat} {v : Value}
    (hp : tmps.getD p undef = .pointer (some ⟨g, 0, none⟩)) (hrun : (loadVar ty ⟨g, 0, none⟩).run P w = .ok v w) : (results fn tmps).run P w = .ok v w := by
  have hp' : tmps[p]?.getD undef = .pointer (some ⟨g, 0, none⟩) := by simpa using hp
  simp [results, h, hp', asAddr, hrun]
theorem run_st1 (r : Int) (w : World) : (Instr.build 58 #[(0, .int .i64 r)]).run Try.prog w = .ok (.agg (stV (r, 0)).toArray) w := by kernel_rfl
theorem run_st2 (r k : Int) (w : World) : (Instr.build 58 #[(0, .int .i64 r), (1, .int .i64 k)]).run Try.prog w = .ok (.agg (stV (r, k)).toArray) w := by kernel_rfl
set_option maxRecDepth 100000 in
theorem p8_calls (r : Int) (w : World) : Calls Try.prog 20 #[.int .i64 r] w fun e w' => e = .returned (.agg (stV (r, 0)).toArray) ∧ Below w.heap.size w w' := by
  have hb := Lib.hid (run_st1 r)
  have hB := Lib.hid (Blk.new w (stV (r, 0)).toArray 58)
  go_enter Try.func20, Try.ntmps20
  go_wp2_with (first | (refine wpList_build1_v rfl 58 0 _ rfl (.int .i64 r) rfl _ (hb.out _) ?_) | (refine wpList_store_new rfl 58 _ _ rfl rfl rfl _ (stV (r, 0)).toArray _ rfl rfl (stV_one _) (by kernel_rfl) ?_))
  exact bodyPost_ret (res_c rfl rfl (run_load_row' (P := Try.prog) _ _ 58 _ 58 _ hB.out Try.underlying58 rfl (by kernel_rfl))) rfl ⟨rfl, new_below _ _⟩
set_option maxRecDepth 100000 in
theorem d8_calls (r : Int) (w : World) : Calls Try.prog 21 #[.int .i64 r] w fun e w' => e = .returned (.agg (stV (r, 1)).toArray) ∧ Below w.heap.size w w' := by
  have hb := Lib.hid (run_st2 r 1)
  have hB := Lib.hid (Blk.new w (stV (r, 1)).toArray 58)
  go_enter Try.func21, Try.ntmps21
  go_wp2_with (first | (refine wpList_buildn_v rfl 58 _ rfl #[(0, .int .i64 r), (1, .int .i64 1)] (by kernel_rfl) _ (hb.out _) ?_) | (refine wpList_store_new rfl 58 _ _ rfl rfl rfl _ (stV (r, 1)).toArray _ rfl rfl (stV_one _) (by kernel_rfl) ?_))
  exact bodyPost_ret (res_c rfl rfl (run_load_row' (P := Try.prog) _ _ 58 _ 58 _ hB.out Try.underlying58 rfl (by kernel_rfl))) rfl ⟨rfl, new_below _ _⟩
def exT : List Rq := [rqLd 5, rqLd 7]
def exL : List (Int × Int) := [(0, 0), (1, 0), (0, 1), (1, 1)]
def exN : List (Int × Int) := [(2, 0), (2, 1)]
theorem rsl_exT (w : World) : (Instr.buildSlice 33 2 #[(0, .agg (rqV (rqLd 5)).toArray), (1, .agg (rqV (rqLd 7)).toArray)]).run Try.prog w = .ok (.slice (some ⟨w.heap.size, 0, none⟩) 2 2) (w.alloc (.cells (exT.map rqV).flatten.toArray 55)) := by kernel_rfl
theorem rsl_exL (w : World) : (Instr.buildSlice 26 4 #[(0, .agg (stV (0, 0)).toArray), (1, .agg (stV (1, 0)).toArray), (2, .agg (stV (0, 1)).toArray), (3, .agg (stV (1, 1)).toArray)]).run Try.prog w = .ok (.slice (some ⟨w.heap.size, 0, none⟩) 4 4) (w.alloc (.cells (exL.map stV).flatten.toArray 58)) := by kernel_rfl
theorem rsl_exN (w : World) : (Instr.buildSlice 26 2 #[(0, .agg (stV (2, 0)).toArray), (1, .agg (stV (2, 1)).toArray)]).run Try.prog w = .ok (.slice (some ⟨w.heap.size, 0, none⟩) 2 2) (w.alloc (.cells (exN.map stV).flatten.toArray 58)) := by kernel_rfl
theorem rsl_exI (w : World) : (Instr.buildSlice 37 4 #[(0, .int .i64 5), (1, .int .i64 12), (2, .int .i64 7), (3, .int .i64 0)]).run Try.prog w = .ok (.slice (some ⟨w.heap.size, 0, none⟩) 4 4) (w.alloc (.cells (([5, 12, 7, 0] : List Int).map inV).flatten.toArray 3)) := by kernel_rfl
theorem ex_pr : prP exL exT = ([5, 12, 7, 0], 0) := by decide +kernel
theorem ex_no : prP exN exT = ([], 8) := by decide +kernel
theorem ex_pk : pkP exL exT = (12, 0) := by decide +kernel
theorem ex_f1 : fitP 0 0 11 0 0 exL exT = (1, 10) := by decide +kernel
theorem ex_f2 : fitP 0 0 12 0 0 exL exT = (-1, 0) := by decide +kernel
theorem ex_op : openD exL 3 = [1] := by decide +kernel

theorem run_ve1 (cp : Int) (w : World) : (Instr.build 32 #[(1, .int .i64 cp)]).run Try.prog w = .ok (.agg #[.int .i64 0, .int .i64 0, .int .i64 cp, .int .i64 0, .int .i64 0]) w := by kernel_rfl
set_option maxHeartbeats 4000000 in
set_option maxRecDepth 100000 in
theorem works8_calls (w : World) : Calls Try.prog 17 #[] w fun e w' => e = .returned (.bool true) ∧ Below w.heap.size w w' := by
  have hb5 := Lib.hid (run_rqLd 5)
  have hb7 := Lib.hid (run_rqLd 7)
  have hv11 := Lib.hid (run_ve1 11)
  have hv12 := Lib.hid (run_ve1 12)
  have h0 := Lib.hid (show Els (w.alloc (.cells (exT.map rqV).flatten.toArray 55)) (some ⟨w.heap.size, 0, none⟩) 10 (exT.map rqV) ∧ Below w.heap.size w (w.alloc (.cells (exT.map rqV).flatten.toArray 55)) from ⟨els_lit (Blk.new _ _ _) (rqV_len _) (by decide), new_below _ _⟩)
  go_enter Try.func17, Try.ntmps17
  go_upto_region 2 with (first | (refine wpList_build1_v rfl 55 4 _ rfl (.int .i64 5) rfl _ (hb5.out _) ?_) | (refine wpList_build1_v rfl 55 4 _ rfl (.int .i64 7) rfl _ (hb7.out _) ?_) | (refine wpList_bsd rfl (rsl_exT _) rfl rfl ?_))
  refine wp_world' (fun wx => Els wx (some ⟨w.heap.size, 0, none⟩) 10 (exT.map rqV) ∧ Below w.heap.size w wx) h0.out ?_
  clear h0 hb5 hb7
  rintro w0 ⟨hT, hb⟩
  generalize hpT : (some ⟨w.heap.size, 0, none⟩ : Option Addr) = pT at *
  replace hpT := Lib.hid hpT
  go_wp2_with fail
  refine (p8_calls 0 _).mono ?_
  rintro e w1 ⟨rfl, hb1⟩
  go_wp2_with fail
  refine (p8_calls 1 _).mono ?_
  rintro e w2 ⟨rfl, hb2⟩
  replace hb2 := hb1.trans (hb2.mono hb1.size)
  go_wp2_with fail
  refine (d8_calls 0 _).mono ?_
  rintro e w3 ⟨rfl, hb3⟩
  replace hb3 := hb2.trans (hb3.mono hb2.size)
  go_wp2_with fail
  refine (d8_calls 1 _).mono ?_
  rintro e w4 ⟨rfl, hb4⟩
  replace hb4 := hb3.trans (hb4.mono hb3.size)
  have hT4 := hT.below hb4
  have hb5 := hb.trans (hb4.mono hb.size)
  clear hb1 hb2 hb3 hb4 hT hb
  have hbA := new_below w4 (.cells (exL.map stV).flatten.toArray 58)
  have P5 := Lib.hid (show Els (w4.alloc (.cells (exL.map stV).flatten.toArray 58)) pT 10 (exT.map rqV) ∧ Els (w4.alloc (.cells (exL.map stV).flatten.toArray 58)) (some ⟨w4.heap.size, 0, none⟩) 2 (exL.map stV) ∧ Below w.heap.size w (w4.alloc (.cells (exL.map stV).flatten.toArray 58)) from
    ⟨hT4.below hbA, els_lit (Blk.new _ _ _) (stV_len _) (by decide), hb5.trans (hbA.mono hb5.size)⟩)
  clear hbA hT4 hb5
  go_upto_region 3 with (first | (refine wpList_bsd rfl (rsl_exL _) rfl rfl ?_))
  refine wp_world' (fun wx => Els wx pT 10 (exT.map rqV) ∧ Els wx (some ⟨w4.heap.size, 0, none⟩) 2 (exL.map stV) ∧ Below w.heap.size w wx) P5.out ?_
  clear P5
  rintro w5 ⟨hT, hL, hb⟩
  generalize hpL : (some ⟨w4.heap.size, 0, none⟩ : Option Addr) = pL at *
  replace hpL := Lib.hid hpL
  have hTb := Lib.hid (fun wx (h : Below w5.heap.size w5 wx) => hT.below h)
  have hLb := Lib.hid (fun wx (h : Below w5.heap.size w5 wx) => hL.below h)
  have hbb := Lib.hid (fun wx (h : Below w5.heap.size w5 wx) => hb.trans (h.mono hb.size))
  have c1 := Lib.hid (show Calls Try.prog 8 #[.slice pL 4 4, .slice pT 2 2] w5 (PrPost w5 ([5, 12, 7, 0], 0)) by
    have := profile_calls pL pT 4 2 exL exT w5 hL hT
    rw [ex_pr] at this
    exact this)
  have c2 := Lib.hid (fun wx (h : Below w5.heap.size w5 wx) => (by
    have := peak_calls pL pT 4 2 exL exT wx (hLb.out wx h) (hTb.out wx h)
    rw [ex_pk] at this
    exact this : Calls Try.prog 10 #[.slice pL 4 4, .slice pT 2 2] wx fun e w' => e = .returned (.tuple #[.int .i64 12, .int .i64 0]) ∧ Below wx.heap.size wx w'))
  have c3 := Lib.hid (fun wx (h : Below w5.heap.size w5 wx) => (by
    have := fits_calls 0 0 11 0 0 pL pT 4 2 exL exT wx (hLb.out wx h) (hTb.out wx h)
    rw [ex_f1] at this
    exact this : Calls Try.prog 13 #[.agg #[.int .i64 0, .int .i64 0, .int .i64 11, .int .i64 0, .int .i64 0], .slice pL 4 4, .slice pT 2 2] wx fun e w' => e = .returned (.tuple #[.int .i64 1, .int .i64 10]) ∧ Below wx.heap.size wx w'))
  have c4 := Lib.hid (fun wx (h : Below w5.heap.size w5 wx) => (by
    have := fits_calls 0 0 12 0 0 pL pT 4 2 exL exT wx (hLb.out wx h) (hTb.out wx h)
    rw [ex_f2] at this
    exact this : Calls Try.prog 13 #[.agg #[.int .i64 0, .int .i64 0, .int .i64 12, .int .i64 0, .int .i64 0], .slice pL 4 4, .slice pT 2 2] wx fun e w' => e = .returned (.tuple #[.int .i64 (-1), .int .i64 0]) ∧ Below wx.heap.size wx w'))
  have c5 := Lib.hid (fun (q : Option Addr) wx (hq : Els wx q 2 (exN.map stV)) (h : Below w5.heap.size w5 wx) => (by
    have := profile_calls q pT 2 2 exN exT wx hq (hTb.out wx h)
    rw [ex_no] at this
    exact this : Calls Try.prog 8 #[.slice q 2 2, .slice pT 2 2] wx (PrPost wx ([], 8))))
  have c6 := Lib.hid (fun wx (h : Below w5.heap.size w5 wx) => (by
    have := open_calls pL 4 exL 3 3 wx (hLb.out wx h) (by decide) ⟨by decide, by omega⟩ (fun s hs => by
      have : s.1 = 0 ∨ s.1 = 1 := by revert s; decide
      unfold wf64
      omega) (by decide)
    rw [ex_op] at this
    exact this : Calls Try.prog 15 #[.slice pL 4 4, .int .i64 3] wx fun e w' => (∃ q d, e = .returned (.slice q 1 d) ∧ 1 ≤ d ∧ Els w' q 1 (([1] : List Int).map inV)) ∧ Below wx.heap.size wx w'))
  clear hT hL hb
  go_wp2_with fail
  refine c1.out.mono ?_
  rintro e w6 ⟨⟨q1, d1, rfl, hd1, hE1⟩, hb6⟩
  replace hE1 := Lib.hid hE1
  replace hb6 := Lib.hid hb6
  have k2 := Lib.hid (c2.out w6 hb6.out)
  clear c1 c2
  go_wp2_with fail
  refine k2.out.mono ?_
  rintro e w7 ⟨rfl, hb7⟩
  replace hE1 := Lib.hid (hE1.out.below hb7)
  replace hb7 := Lib.hid (hb6.out.trans (hb7.mono hb6.out.size))
  have k3 := Lib.hid (c3.out w7 hb7.out)
  clear k2 c3 hb6
  go_wp2_with (first | (refine wpList_build1_v rfl 32 1 _ rfl (.int .i64 11) rfl _ (hv11.out _) ?_))
  refine k3.out.mono ?_
  rintro e w8 ⟨rfl, hb8⟩
  replace hE1 := Lib.hid (hE1.out.below hb8)
  replace hb8 := Lib.hid (hb7.out.trans (hb8.mono hb7.out.size))
  have k4 := Lib.hid (c4.out w8 hb8.out)
  clear k3 c4 hb7
  go_wp2_with (first | (refine wpList_build1_v rfl 32 1 _ rfl (.int .i64 12) rfl _ (hv12.out _) ?_))
  refine k4.out.mono ?_
  rintro e w9 ⟨rfl, hb9⟩
  replace hE1 := Lib.hid (hE1.out.below hb9)
  replace hb9 := Lib.hid (hb8.out.trans (hb9.mono hb8.out.size))
  clear k4 hb8
  go_wp2_with fail
  refine (p8_calls 2 _).mono ?_
  rintro e wa ⟨rfl, hba⟩
  go_wp2_with fail
  refine (d8_calls 2 _).mono ?_
  rintro e wb ⟨rfl, hbb2⟩
  have hbc := hba.trans (hbb2.mono hba.size)
  have hbN := hbc.trans ((new_below wb (.cells (exN.map stV).flatten.toArray 58)).mono hbc.size)
  have hb5b := hb9.out.trans (hbN.mono hb9.out.size)
  have k5 := Lib.hid (c5.out (some ⟨wb.heap.size, 0, none⟩) _ (els_lit (Blk.new wb (exN.map stV).flatten.toArray 58) (stV_len _) (by decide)) hb5b)
  replace hE1 := Lib.hid (hE1.out.below hbN)
  replace hb5b := Lib.hid hb5b
  clear hba hbb2 hbc hbN hb9 c5
  go_wp2_with (first | (refine wpList_bsd rfl (rsl_exN _) rfl rfl ?_))
  refine k5.out.mono ?_
  rintro e wc ⟨⟨q2, d2, rfl, hd2, _⟩, hbc⟩
  have hbI := hbc.trans ((new_below wc (.cells (([5, 12, 7, 0] : List Int).map inV).flatten.toArray 3)).mono hbc.size)
  have hb5c := hb5b.out.trans (hbI.mono hb5b.out.size)
  have hi := Lib.hid (show Calls Try.prog 12 #[.slice q1 4 d1, .slice (some ⟨wc.heap.size, 0, none⟩) 4 4] (wc.alloc (.cells (([5, 12, 7, 0] : List Int).map inV).flatten.toArray 3)) (fun e w' => e = .returned (.bool true) ∧ Below (wc.alloc (.cells (([5, 12, 7, 0] : List Int).map inV).flatten.toArray 3)).heap.size (wc.alloc (.cells (([5, 12, 7, 0] : List Int).map inV).flatten.toArray 3)) w') by
    have := ints_calls q1 (some ⟨wc.heap.size, 0, none⟩) d1 4 [5, 12, 7, 0] [5, 12, 7, 0] _ (hE1.out.below hbI) (els_lit (Blk.new wc (([5, 12, 7, 0] : List Int).map inV).flatten.toArray 3) (inV_len _) (by decide))
    rw [show decide (([5, 12, 7, 0] : List Int) = [5, 12, 7, 0]) = true by decide] at this
    exact this)
  replace hb5c := Lib.hid hb5c
  clear hbc hbI hb5b hE1 k5
  go_wp2_with (first | (refine wpList_bsd rfl (rsl_exI _) rfl rfl ?_))
  refine hi.out.mono ?_
  rintro e wd ⟨rfl, hbd⟩
  have hbd2 := hb5c.out.trans (hbd.mono hb5c.out.size)
  have k6 := Lib.hid (c6.out wd hbd2)
  replace hbd2 := Lib.hid hbd2
  clear hi hbd hb5c c6
  go_wp2_with fail
  refine k6.out.mono ?_
  rintro e we ⟨⟨q3, d3, rfl, hd3, hE3⟩, hbe⟩
  have hbJ := hbe.trans ((new_below we (.cells (inV 1).toArray 3)).mono hbe.size)
  have hbf := Lib.hid (hbd2.out.trans (hbJ.mono hbd2.out.size))
  have hj := Lib.hid (show Calls Try.prog 12 #[.slice q3 1 d3, .slice (some ⟨we.heap.size, 0, none⟩) 1 1] (we.alloc (.cells (inV 1).toArray 3)) (fun e w' => e = .returned (.bool true) ∧ Below (we.alloc (.cells (inV 1).toArray 3)).heap.size (we.alloc (.cells (inV 1).toArray 3)) w') by
    have := ints_calls q3 (some ⟨we.heap.size, 0, none⟩) d3 1 [1] [1] _ (hE3.below (new_below we (.cells (inV 1).toArray 3))) (els_lit (R := ([1] : List Int).map inV) (Blk.new we _ 3) (inV_len _) (by decide))
    rw [show decide (([1] : List Int) = [1]) = true by decide] at this
    exact this)
  clear k6 hbe hbJ hbd2 hE3
  go_wp2_with (first | (refine wpList_bs1 rfl 37 1 0 _ rfl (.int .i64 1) rfl _ _ (rsl_in 1 _) ?_))
  refine hj.out.mono ?_
  rintro e wf ⟨rfl, hbz⟩
  have hbL := hbb.out wf (hbf.out.trans (hbz.mono hbf.out.size))
  clear hj hbf hbz hbb
  go_wp2_with fail
  go_ret
  exact ⟨rfl, hbL⟩
end Go.Proofs.Ytaijimckbpplnaa
