/-
  'LoadKnown': it returns true.
-/
import Derived.Test.YtaijimckbpplnaaW8
namespace Go.Proofs.Ytaijimckbpplnaa
open Go.RowKit

theorem exec_bsd {P : Program} {ρ : Operand → Value} {o : Oper} {t : TypeId} {n : Nat} {parts : Array (Nat × Operand)} {vs : Array (Nat × Value)} {w w' : World} {v : Value} (ho : o.op = .buildSlice t n parts) (hp : (parts.map fun (i, x) => (i, ρ x)) = vs)
    (h : (Instr.buildSlice t n vs).run P w = .ok v w') : (execOp ρ o).run P w = .ok (.value v) w' := by
  unfold execOp
  simp only [ho, hp, Sem.run_bind, h, Result.andThen_ok, Sem.run_pure]
theorem exec_mks {P : Program} {ρ : Operand → Value} {o : Oper} {t : TypeId} {x y : Operand} {a b : Value} {w w' : World} {v : Value} (ho : o.op = .makeSlice t x y) (hx : ρ x = a) (hy : ρ y = b)
    (h : (Instr.makeSlice t a b).run P w = .ok v w') : (execOp ρ o).run P w = .ok (.value v) w' := by
  unfold execOp
  simp only [ho, hx, hy, Sem.run_bind, h, Result.andThen_ok, Sem.run_pure]
def rqLs (x y : Int) : Rq := fun i => if i = 8 then x else if i = 9 then y else 0
def knT : List Rq := [rqLd 1000, rqLd 0, rqLs 1 2000]
theorem run_rqLs (x y : Int) (w : World) : (Instr.build 55 #[(4, .int .i64 x), (5, .int .i64 y)]).run Try.prog w = .ok (.agg (rqV (rqLs x y)).toArray) w := by kernel_rfl
theorem rsl_knT (w : World) : (Instr.buildSlice 33 3 #[(0, .agg (rqV (rqLd 1000)).toArray), (1, .agg (rqV (rqLd 0)).toArray), (2, .agg (rqV (rqLs 1 2000)).toArray)]).run Try.prog w = .ok (.slice (some ⟨w.heap.size, 0, none⟩) 3 3) (w.alloc (.cells (knT.map rqV).flatten.toArray 55)) := by kernel_rfl
def knO : List (Int × Int) := [(0, 0), (0, 1)]
theorem rsl_knO (w : World) : (Instr.buildSlice 26 2 #[(0, .agg (stV (0, 0)).toArray), (1, .agg (stV (0, 1)).toArray)]).run Try.prog w = .ok (.slice (some ⟨w.heap.size, 0, none⟩) 2 2) (w.alloc (.cells (knO.map stV).flatten.toArray 58)) := by kernel_rfl
def knA : List (Int × Int) := [(0, 1), (0, 0)]
theorem rsl_knA (w : World) : (Instr.buildSlice 26 2 #[(0, .agg (stV (0, 1)).toArray), (1, .agg (stV (0, 0)).toArray)]).run Try.prog w = .ok (.slice (some ⟨w.heap.size, 0, none⟩) 2 2) (w.alloc (.cells (knA.map stV).flatten.toArray 58)) := by kernel_rfl
def knB : List (Int × Int) := [(0, 0), (1, 0), (1, 1), (0, 1)]
theorem rsl_knB (w : World) : (Instr.buildSlice 26 4 #[(0, .agg (stV (0, 0)).toArray), (1, .agg (stV (1, 0)).toArray), (2, .agg (stV (1, 1)).toArray), (3, .agg (stV (0, 1)).toArray)]).run Try.prog w = .ok (.slice (some ⟨w.heap.size, 0, none⟩) 4 4) (w.alloc (.cells (knB.map stV).flatten.toArray 58)) := by kernel_rfl
def knC : List (Int × Int) := [(2, 0), (2, 1)]
theorem rsl_knC (w : World) : (Instr.buildSlice 26 2 #[(0, .agg (stV (2, 0)).toArray), (1, .agg (stV (2, 1)).toArray)]).run Try.prog w = .ok (.slice (some ⟨w.heap.size, 0, none⟩) 2 2) (w.alloc (.cells (knC.map stV).flatten.toArray 58)) := by kernel_rfl
def knD : List (Int × Int) := [(1, 0), (3, 0), (1, 1), (3, 1)]
theorem rsl_knD (w : World) : (Instr.buildSlice 26 4 #[(0, .agg (stV (1, 0)).toArray), (1, .agg (stV (3, 0)).toArray), (2, .agg (stV (1, 1)).toArray), (3, .agg (stV (3, 1)).toArray)]).run Try.prog w = .ok (.slice (some ⟨w.heap.size, 0, none⟩) 4 4) (w.alloc (.cells (knD.map stV).flatten.toArray 58)) := by kernel_rfl
def knE : List (Int × Int) := [(9, 0), (4, 0), (9, 0)]
theorem rsl_knE (w : World) : (Instr.buildSlice 26 3 #[(0, .agg (stV (9, 0)).toArray), (1, .agg (stV (4, 0)).toArray), (2, .agg (stV (9, 0)).toArray)]).run Try.prog w = .ok (.slice (some ⟨w.heap.size, 0, none⟩) 3 3) (w.alloc (.cells (knE.map stV).flatten.toArray 58)) := by kernel_rfl
def knM : List (Int × Int) := List.replicate 17 (0, 0)
theorem mks_knM (w : World) : (Instr.makeSlice 26 (.int .i64 17) (.int .i64 17)).run Try.prog w = .ok (.slice (some ⟨w.heap.size, 0, none⟩) 17 17) (w.alloc (.cells (knM.map stV).flatten.toArray 58)) := by kernel_rfl
theorem rsl_kn49 (w : World) : (Instr.buildSlice 37 2 #[(0, .int .i64 4), (1, .int .i64 9)]).run Try.prog w = .ok (.slice (some ⟨w.heap.size, 0, none⟩) 2 2) (w.alloc (.cells (([4, 9] : List Int).map inV).flatten.toArray 3)) := by kernel_rfl
theorem run_pl1 (x : Int) (w : World) : (Instr.build 30 #[(0, .int .i64 x)]).run Try.prog w = .ok (.agg #[.int .i64 x, .int .i64 0]) w := by kernel_rfl
theorem run_ve2 (x y cp : Int) (w : World) : (Instr.build 32 #[(0, .agg #[.int .i64 x, .int .i64 y]), (1, .int .i64 cp)]).run Try.prog w = .ok (.agg #[.int .i64 x, .int .i64 y, .int .i64 cp, .int .i64 0, .int .i64 0]) w := by kernel_rfl
theorem run_ve0 (w : World) : (Instr.build 32 #[]).run Try.prog w = .ok (.agg #[.int .i64 0, .int .i64 0, .int .i64 0, .int .i64 0, .int .i64 0]) w := by kernel_rfl
theorem kn_0 : prP [] [] = ([], 0) := by decide +kernel
theorem kn_A : prP knA knT = ([], 8) := by decide +kernel
theorem kn_B : prP knB knT = ([], 2) := by decide +kernel
theorem kn_C : prP knC knT = ([], 2) := by decide +kernel
theorem kn_D : prP knD knT = ([], 8) := by decide +kernel
theorem kn_M : pkP knM knT = (0, 11) := by decide +kernel
theorem kn_f1 : fitP (-1) 0 1 0 0 [] [] = (-1, 4) := by decide +kernel
theorem kn_f2 : fitP 0 0 0 0 0 knO knT = (-1, 7) := by decide +kernel
theorem kn_f3 : fitP 0 0 999 0 0 knO knT = (0, 10) := by decide +kernel
theorem kn_o1 : openD knO 2 = [] := by decide +kernel
theorem kn_o2 : openD knO 0 = [] := by decide +kernel
theorem kn_o3 : openD knE 3 = [4, 9] := by decide +kernel
set_option maxHeartbeats 8000000 in
set_option maxRecDepth 100000 in
theorem LoadKnown_walk (w : World) : Calls Try.prog 5 #[] w fun e w' => e = .returned (.bool true) ∧ Below w.heap.size w w' := by
  have r1 := Lib.hid (run_rqLd 1000)
  have r2 := Lib.hid (run_rqLd 0)
  have r3 := Lib.hid (run_rqLs 1 2000)
  have v1 := Lib.hid (run_pl1 (-1))
  have v2 := Lib.hid (run_ve2 (-1) 0 1)
  have v3 := Lib.hid (run_ve1 999)
  have h0 := Lib.hid (show Els (w.alloc (.cells (knT.map rqV).flatten.toArray 55)) (some ⟨w.heap.size, 0, none⟩) 10 (knT.map rqV) ∧ Below w.heap.size w (w.alloc (.cells (knT.map rqV).flatten.toArray 55)) from ⟨els_lit (Blk.new _ _ _) (rqV_len _) (by decide), new_below _ _⟩)
  go_enter Try.func5, Try.ntmps5
  go_upto_region 2 with (first | (refine wpList_build1_v rfl 55 4 _ rfl (.int .i64 1000) rfl _ (r1.out _) ?_) | (refine wpList_build1_v rfl 55 4 _ rfl (.int .i64 0) rfl _ (r2.out _) ?_) | (refine wpList_buildn_v rfl 55 _ rfl #[(4, .int .i64 1), (5, .int .i64 2000)] (by kernel_rfl) _ (r3.out _) ?_) | (refine wpList_bsd rfl (rsl_knT _) rfl rfl ?_))
  refine wp_world' (fun wx => Els wx (some ⟨w.heap.size, 0, none⟩) 10 (knT.map rqV) ∧ Below w.heap.size w wx) h0.out ?_
  clear h0 r1 r2 r3
  rintro w0 ⟨hT, hb⟩
  generalize hpT : (some ⟨w.heap.size, 0, none⟩ : Option Addr) = pT at *
  replace hpT := Lib.hid hpT
  go_wp2_with fail
  refine (p8_calls 0 _).mono ?_
  rintro e w1 ⟨rfl, g1⟩
  replace g1 := Lib.hid g1
  go_wp2_with fail
  refine (d8_calls 0 _).mono ?_
  rintro e w2 ⟨rfl, g2⟩
  replace g2 := Lib.hid (g1.out.trans (g2.mono g1.out.size))
  clear g1
  have hbA := new_below w2 (.cells (knO.map stV).flatten.toArray 58)
  have hbB := g2.out.trans (hbA.mono g2.out.size)
  have P5 := Lib.hid (show Els (w2.alloc (.cells (knO.map stV).flatten.toArray 58)) pT 10 (knT.map rqV) ∧ Els (w2.alloc (.cells (knO.map stV).flatten.toArray 58)) (some ⟨w2.heap.size, 0, none⟩) 2 (knO.map stV) ∧ Below w.heap.size w (w2.alloc (.cells (knO.map stV).flatten.toArray 58)) from
    ⟨hT.below hbB, els_lit (Blk.new _ _ _) (stV_len _) (by decide), hb.trans (hbB.mono hb.size)⟩)
  clear hbA hbB hT hb g2
  go_upto_region 3 with (first | (refine wpList_bsd rfl (rsl_knO _) rfl rfl ?_))
  refine wp_world' (fun wx => Els wx pT 10 (knT.map rqV) ∧ Els wx (some ⟨w2.heap.size, 0, none⟩) 2 (knO.map stV) ∧ Below w.heap.size w wx) P5.out ?_
  clear P5
  rintro wB ⟨hT, hL, hb⟩
  generalize hpL : (some ⟨w2.heap.size, 0, none⟩ : Option Addr) = pL at *
  replace hpL := Lib.hid hpL
  have hTb := Lib.hid (fun wx (h : Below wB.heap.size wB wx) => hT.below h)
  have hLb := Lib.hid (fun wx (h : Below wB.heap.size wB wx) => hL.below h)
  have hbb := Lib.hid (fun wx (h : Below wB.heap.size wB wx) => hb.trans (h.mono hb.size))
  have c0 := Lib.hid (fun wx => (by
    have := profile_calls none none 0 0 [] [] wx (els_nil _ _) (els_nil _ _)
    rw [kn_0] at this
    exact this : Calls Try.prog 8 #[.slice none 0 0, .slice none 0 0] wx (PrPost wx ([], 0))))
  have cA := Lib.hid (fun (q : Option Addr) wx (hq : Els wx q 2 (knA.map stV)) (h : Below wB.heap.size wB wx) => (by
    have := profile_calls q pT 2 3 knA knT wx hq (hTb.out wx h)
    rw [kn_A] at this
    exact this : Calls Try.prog 8 #[.slice q 2 2, .slice pT 3 3] wx (PrPost wx ([], 8))))
  have cB := Lib.hid (fun (q : Option Addr) wx (hq : Els wx q 2 (knB.map stV)) (h : Below wB.heap.size wB wx) => (by
    have := profile_calls q pT 4 3 knB knT wx hq (hTb.out wx h)
    rw [kn_B] at this
    exact this : Calls Try.prog 8 #[.slice q 4 4, .slice pT 3 3] wx (PrPost wx ([], 2))))
  have cC := Lib.hid (fun (q : Option Addr) wx (hq : Els wx q 2 (knC.map stV)) (h : Below wB.heap.size wB wx) => (by
    have := profile_calls q pT 2 3 knC knT wx hq (hTb.out wx h)
    rw [kn_C] at this
    exact this : Calls Try.prog 8 #[.slice q 2 2, .slice pT 3 3] wx (PrPost wx ([], 2))))
  have cD := Lib.hid (fun (q : Option Addr) wx (hq : Els wx q 2 (knD.map stV)) (h : Below wB.heap.size wB wx) => (by
    have := profile_calls q pT 4 3 knD knT wx hq (hTb.out wx h)
    rw [kn_D] at this
    exact this : Calls Try.prog 8 #[.slice q 4 4, .slice pT 3 3] wx (PrPost wx ([], 8))))
  have cM := Lib.hid (fun (q : Option Addr) wx (hq : Els wx q 2 (knM.map stV)) (h : Below wB.heap.size wB wx) => (by
    have := peak_calls q pT 17 3 knM knT wx hq (hTb.out wx h)
    rw [kn_M] at this
    exact this : Calls Try.prog 10 #[.slice q 17 17, .slice pT 3 3] wx fun e w' => e = .returned (.tuple #[.int .i64 0, .int .i64 11]) ∧ Below wx.heap.size wx w'))
  have f1 := Lib.hid (fun wx => (by
    have := fits_calls (-1) 0 1 0 0 none none 0 0 [] [] wx (els_nil _ _) (els_nil _ _)
    rw [kn_f1] at this
    exact this : Calls Try.prog 13 #[.agg #[.int .i64 (-1), .int .i64 0, .int .i64 1, .int .i64 0, .int .i64 0], .slice none 0 0, .slice none 0 0] wx fun e w' => e = .returned (.tuple #[.int .i64 (-1), .int .i64 4]) ∧ Below wx.heap.size wx w'))
  have f2 := Lib.hid (fun wx (h : Below wB.heap.size wB wx) => (by
    have := fits_calls 0 0 0 0 0 pL pT 2 3 knO knT wx (hLb.out wx h) (hTb.out wx h)
    rw [kn_f2] at this
    exact this : Calls Try.prog 13 #[.agg #[.int .i64 0, .int .i64 0, .int .i64 0, .int .i64 0, .int .i64 0], .slice pL 2 2, .slice pT 3 3] wx fun e w' => e = .returned (.tuple #[.int .i64 (-1), .int .i64 7]) ∧ Below wx.heap.size wx w'))
  have f3 := Lib.hid (fun wx (h : Below wB.heap.size wB wx) => (by
    have := fits_calls 0 0 999 0 0 pL pT 2 3 knO knT wx (hLb.out wx h) (hTb.out wx h)
    rw [kn_f3] at this
    exact this : Calls Try.prog 13 #[.agg #[.int .i64 0, .int .i64 0, .int .i64 999, .int .i64 0, .int .i64 0], .slice pL 2 2, .slice pT 3 3] wx fun e w' => e = .returned (.tuple #[.int .i64 (0), .int .i64 10]) ∧ Below wx.heap.size wx w'))
  have o1 := Lib.hid (fun wx (h : Below wB.heap.size wB wx) => (by
    have := open_calls pL 2 knO (2) 2 wx (hLb.out wx h) (by decide) ⟨by decide, by omega⟩ (fun s hs => by
      have : s.1 = 0 ∨ s.1 = 4 ∨ s.1 = 9 := by revert s; decide
      unfold wf64
      omega) (by decide)
    rw [kn_o1] at this
    exact this : Calls Try.prog 15 #[.slice pL 2 2, .int .i64 (2)] wx fun e w' => (∃ q d, e = .returned (.slice q 0 d) ∧ 0 ≤ d ∧ Els w' q 1 (([] : List Int).map inV)) ∧ Below wx.heap.size wx w'))
  have o2 := Lib.hid (fun wx (h : Below wB.heap.size wB wx) => (by
    have := open_calls pL 2 knO (-5) 0 wx (hLb.out wx h) (by decide) ⟨by decide, by omega⟩ (fun s hs => by
      have : s.1 = 0 ∨ s.1 = 4 ∨ s.1 = 9 := by revert s; decide
      unfold wf64
      omega) (by decide)
    rw [kn_o2] at this
    exact this : Calls Try.prog 15 #[.slice pL 2 2, .int .i64 (-5)] wx fun e w' => (∃ q d, e = .returned (.slice q 0 d) ∧ 0 ≤ d ∧ Els w' q 1 (([] : List Int).map inV)) ∧ Below wx.heap.size wx w'))
  have o3 := Lib.hid (fun (q : Option Addr) wx (hq : Els wx q 2 (knE.map stV)) (_h : Below wB.heap.size wB wx) => (by
    have := open_calls q 3 knE (99) 3 wx hq (by decide) ⟨by decide, by omega⟩ (fun s hs => by
      have : s.1 = 0 ∨ s.1 = 4 ∨ s.1 = 9 := by revert s; decide
      unfold wf64
      omega) (by decide)
    rw [kn_o3] at this
    exact this : Calls Try.prog 15 #[.slice q 3 3, .int .i64 (99)] wx fun e w' => (∃ q d, e = .returned (.slice q 2 d) ∧ 2 ≤ d ∧ Els w' q 1 (([4, 9] : List Int).map inV)) ∧ Below wx.heap.size wx w'))
  clear hT hL hb
  go_wp2_with fail
  refine (c0.out _).mono ?_
  rintro e wC ⟨⟨q0, d0, rfl, _, _⟩, gC⟩
  replace gC := Lib.hid gC
  clear c0
  go_wp2_with fail
  refine (d8_calls 0 _).mono ?_
  rintro e w3 ⟨rfl, g3⟩
  replace g3 := Lib.hid (gC.out.trans (g3.mono gC.out.size))
  clear gC
  go_wp2_with fail
  refine (p8_calls 0 _).mono ?_
  rintro e w4 ⟨rfl, g4⟩
  replace g4 := Lib.hid (g3.out.trans (g4.mono g3.out.size))
  clear g3
  have hN1 := g4.out.trans ((new_below w4 (.cells (knA.map stV).flatten.toArray 58)).mono g4.out.size)
  have k1 := Lib.hid (cA.out (some ⟨w4.heap.size, 0, none⟩) _ (els_lit (Blk.new w4 (knA.map stV).flatten.toArray 58) (stV_len _) (by decide)) hN1)
  replace hN1 := Lib.hid hN1
  clear g4 cA
  go_wp2_with (first | (refine wpList_bsd rfl (rsl_knA _) rfl rfl ?_))
  refine k1.out.mono ?_
  rintro e x1 ⟨⟨q1, d1, rfl, _, _⟩, b1⟩
  replace b1 := Lib.hid (hN1.out.trans (b1.mono hN1.out.size))
  clear k1 hN1
  go_wp2_with fail
  refine (p8_calls 0 _).mono ?_
  rintro e w5 ⟨rfl, g5⟩
  replace g5 := Lib.hid (b1.out.trans (g5.mono b1.out.size))
  clear b1
  go_wp2_with fail
  refine (p8_calls 1 _).mono ?_
  rintro e w6 ⟨rfl, g6⟩
  replace g6 := Lib.hid (g5.out.trans (g6.mono g5.out.size))
  clear g5
  go_wp2_with fail
  refine (d8_calls 1 _).mono ?_
  rintro e w7 ⟨rfl, g7⟩
  replace g7 := Lib.hid (g6.out.trans (g7.mono g6.out.size))
  clear g6
  go_wp2_with fail
  refine (d8_calls 0 _).mono ?_
  rintro e w8 ⟨rfl, g8⟩
  replace g8 := Lib.hid (g7.out.trans (g8.mono g7.out.size))
  clear g7
  have hN2 := g8.out.trans ((new_below w8 (.cells (knB.map stV).flatten.toArray 58)).mono g8.out.size)
  have k2 := Lib.hid (cB.out (some ⟨w8.heap.size, 0, none⟩) _ (els_lit (Blk.new w8 (knB.map stV).flatten.toArray 58) (stV_len _) (by decide)) hN2)
  replace hN2 := Lib.hid hN2
  clear g8 cB
  go_wp2_with (first | (refine wpList_bsd rfl (rsl_knB _) rfl rfl ?_))
  refine k2.out.mono ?_
  rintro e x2 ⟨⟨q2, d2, rfl, _, _⟩, b2⟩
  replace b2 := Lib.hid (hN2.out.trans (b2.mono hN2.out.size))
  clear k2 hN2
  go_wp2_with fail
  refine (p8_calls 2 _).mono ?_
  rintro e w9 ⟨rfl, g9⟩
  replace g9 := Lib.hid (b2.out.trans (g9.mono b2.out.size))
  clear b2
  go_wp2_with fail
  refine (d8_calls 2 _).mono ?_
  rintro e w10 ⟨rfl, g10⟩
  replace g10 := Lib.hid (g9.out.trans (g10.mono g9.out.size))
  clear g9
  have hN3 := g10.out.trans ((new_below w10 (.cells (knC.map stV).flatten.toArray 58)).mono g10.out.size)
  have k3 := Lib.hid (cC.out (some ⟨w10.heap.size, 0, none⟩) _ (els_lit (Blk.new w10 (knC.map stV).flatten.toArray 58) (stV_len _) (by decide)) hN3)
  replace hN3 := Lib.hid hN3
  clear g10 cC
  go_wp2_with (first | (refine wpList_bsd rfl (rsl_knC _) rfl rfl ?_))
  refine k3.out.mono ?_
  rintro e x3 ⟨⟨q3, d3, rfl, _, _⟩, b3⟩
  replace b3 := Lib.hid (hN3.out.trans (b3.mono hN3.out.size))
  clear k3 hN3
  go_wp2_with fail
  refine (p8_calls 1 _).mono ?_
  rintro e w11 ⟨rfl, g11⟩
  replace g11 := Lib.hid (b3.out.trans (g11.mono b3.out.size))
  clear b3
  go_wp2_with fail
  refine (p8_calls 3 _).mono ?_
  rintro e w12 ⟨rfl, g12⟩
  replace g12 := Lib.hid (g11.out.trans (g12.mono g11.out.size))
  clear g11
  go_wp2_with fail
  refine (d8_calls 1 _).mono ?_
  rintro e w13 ⟨rfl, g13⟩
  replace g13 := Lib.hid (g12.out.trans (g13.mono g12.out.size))
  clear g12
  go_wp2_with fail
  refine (d8_calls 3 _).mono ?_
  rintro e w14 ⟨rfl, g14⟩
  replace g14 := Lib.hid (g13.out.trans (g14.mono g13.out.size))
  clear g13
  have hN4 := g14.out.trans ((new_below w14 (.cells (knD.map stV).flatten.toArray 58)).mono g14.out.size)
  have k4 := Lib.hid (cD.out (some ⟨w14.heap.size, 0, none⟩) _ (els_lit (Blk.new w14 (knD.map stV).flatten.toArray 58) (stV_len _) (by decide)) hN4)
  replace hN4 := Lib.hid hN4
  clear g14 cD
  go_wp2_with (first | (refine wpList_bsd rfl (rsl_knD _) rfl rfl ?_))
  refine k4.out.mono ?_
  rintro e x4 ⟨⟨q4, d4, rfl, _, _⟩, b4⟩
  replace b4 := Lib.hid (hN4.out.trans (b4.mono hN4.out.size))
  clear k4 hN4
  have hN5 := b4.out.trans ((new_below x4 (.cells (knM.map stV).flatten.toArray 58)).mono b4.out.size)
  have k5 := Lib.hid (cM.out (some ⟨x4.heap.size, 0, none⟩) _ (els_lit (Blk.new x4 (knM.map stV).flatten.toArray 58) (stV_len _) (by decide)) hN5)
  replace hN5 := Lib.hid hN5
  clear b4 cM
  go_wp2_with (first | (refine wpList_vw rfl _ (exec_mks rfl rfl rfl (mks_knM _)) ?_))
  refine k5.out.mono ?_
  rintro e x5 ⟨rfl, b5⟩
  replace b5 := Lib.hid (hN5.out.trans (b5.mono hN5.out.size))
  clear k5 hN5
  have k6 := Lib.hid (f1.out x5)
  clear f1
  go_wp2_with (first | (refine wpList_build1_v rfl 30 0 _ rfl (.int .i64 (-1)) rfl _ (v1.out _) ?_) | (refine wpList_buildn_v rfl 32 _ rfl #[(0, .agg #[.int .i64 (-1), .int .i64 0]), (1, .int .i64 1)] (by kernel_rfl) _ (v2.out _) ?_))
  refine k6.out.mono ?_
  rintro e x6 ⟨rfl, b6⟩
  replace b6 := Lib.hid (b5.out.trans (b6.mono b5.out.size))
  clear k6 b5
  have k7 := Lib.hid (f2.out x6 b6.out)
  clear f2
  go_wp2_with (first | (refine wpList_build_v rfl 32 rfl _ (run_ve0 _) ?_))
  refine k7.out.mono ?_
  rintro e x7 ⟨rfl, b7⟩
  replace b7 := Lib.hid (b6.out.trans (b7.mono b6.out.size))
  clear k7 b6
  have k8 := Lib.hid (f3.out x7 b7.out)
  clear f3
  go_wp2_with (first | (refine wpList_build1_v rfl 32 1 _ rfl (.int .i64 999) rfl _ (v3.out _) ?_))
  refine k8.out.mono ?_
  rintro e x8 ⟨rfl, b8⟩
  replace b8 := Lib.hid (b7.out.trans (b8.mono b7.out.size))
  clear k8 b7
  go_wp2_with fail
  refine (works8_calls _).mono ?_
  rintro e x9 ⟨rfl, b9⟩
  replace b9 := Lib.hid (b8.out.trans (b9.mono b8.out.size))
  clear b8
  have k10 := Lib.hid (o1.out x9 b9.out)
  clear o1
  go_wp2_with fail
  refine k10.out.mono ?_
  rintro e x10 ⟨⟨q10, d10, rfl, _, _⟩, b10⟩
  replace b10 := Lib.hid (b9.out.trans (b10.mono b9.out.size))
  have k11 := Lib.hid (o2.out x10 b10.out)
  clear o2 k10 b9
  go_wp2_with fail
  refine k11.out.mono ?_
  rintro e x11 ⟨⟨q11, d11, rfl, _, _⟩, b11⟩
  replace b11 := Lib.hid (b10.out.trans (b11.mono b10.out.size))
  clear k11 b10
  go_wp2_with fail
  refine (p8_calls 9 _).mono ?_
  rintro e w15 ⟨rfl, g15⟩
  replace g15 := Lib.hid (b11.out.trans (g15.mono b11.out.size))
  clear b11
  go_wp2_with fail
  refine (p8_calls 4 _).mono ?_
  rintro e w16 ⟨rfl, g16⟩
  replace g16 := Lib.hid (g15.out.trans (g16.mono g15.out.size))
  clear g15
  go_wp2_with fail
  refine (p8_calls 9 _).mono ?_
  rintro e w17 ⟨rfl, g17⟩
  replace g17 := Lib.hid (g16.out.trans (g17.mono g16.out.size))
  clear g16
  have hN12 := g17.out.trans ((new_below w17 (.cells (knE.map stV).flatten.toArray 58)).mono g17.out.size)
  have k12 := Lib.hid (o3.out (some ⟨w17.heap.size, 0, none⟩) _ (els_lit (Blk.new w17 (knE.map stV).flatten.toArray 58) (stV_len _) (by decide)) hN12)
  replace hN12 := Lib.hid hN12
  clear g17 o3
  go_wp2_with fail
  refine k12.out.mono ?_
  rintro e x12 ⟨⟨q12, d12, rfl, _, hE12⟩, b12⟩
  replace b12 := hN12.out.trans (b12.mono hN12.out.size)
  have hN13 := b12.trans ((new_below x12 (.cells (([4, 9] : List Int).map inV).flatten.toArray 3)).mono b12.size)
  have hj := Lib.hid (show Calls Try.prog 12 #[.slice q12 2 d12, .slice (some ⟨x12.heap.size, 0, none⟩) 2 2] (x12.alloc (.cells (([4, 9] : List Int).map inV).flatten.toArray 3)) (fun e w' => e = .returned (.bool true) ∧ Below (x12.alloc (.cells (([4, 9] : List Int).map inV).flatten.toArray 3)).heap.size (x12.alloc (.cells (([4, 9] : List Int).map inV).flatten.toArray 3)) w') by
    have := ints_calls q12 (some ⟨x12.heap.size, 0, none⟩) d12 2 [4, 9] [4, 9] _ (hE12.below (new_below x12 _)) (els_lit (R := ([4, 9] : List Int).map inV) (Blk.new x12 _ 3) (inV_len _) (by decide))
    rw [show decide (([4, 9] : List Int) = [4, 9]) = true by decide] at this
    exact this)
  replace hN13 := Lib.hid hN13
  clear k12 hN12 b12 hE12
  go_wp2_with fail
  refine hj.out.mono ?_
  rintro e x13 ⟨rfl, b13⟩
  have hbL := hbb.out x13 (hN13.out.trans (b13.mono hN13.out.size))
  clear hj hN13 b13 hbb
  go_wp2_with fail
  go_ret
  exact ⟨rfl, hbL⟩
end Go.Proofs.Ytaijimckbpplnaa
