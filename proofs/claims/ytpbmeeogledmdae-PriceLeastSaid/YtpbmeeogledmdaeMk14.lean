/-
  Layer 14: Parts (two vehicles, eight requests), made (a plan into which requests were put).
-/
import Derived.Test.YtpbmeeogledmdaePs
namespace Go.Proofs.Ytpbmeeogledmdae
open Go.RowKit

def ppT (B : List Int) (wd : Int) : List Rq := drT B wd 0 8
def ppF (B : List Int) : List Ve := [drV B 64, drV B 69]
def ppC (p : Option Addr) (c : Nat) (B : List Int) (n wd k m : Int) : Array Value := #[.slice p B.length c, .int .u8 n, .int .u8 wd, .int .i64 k, .int .u8 m]
/-- a fleet and requests, and routes, whatever these are -/
def PpPost (w : World) (F : List Ve) (T : List Rq) (e : Ending) (w' : World) : Prop :=
  (∃ (q q' r : Option Addr) (d d' m dr : Nat), e = .returned (.tuple #[.slice q F.length d, .slice r m dr, .slice q' T.length d']) ∧ Els w' q 5 (F.map veR) ∧ Els w' q' 10 (T.map rqV)) ∧ Below w.heap.size w w'
theorem pp_newC (B : List Int) (wd : Int) : newC (ppF B) (ppT B wd) = 0 := by
  have hl : (ppF B).length = 2 := rfl
  unfold newC
  rw [if_neg (by omega), if_neg, if_neg]
  · intro h
    obtain ⟨r, hr, h2⟩ := List.any_eq_true.1 h
    unfold ppT drT at hr
    obtain ⟨i, hi, rfl⟩ := List.mem_map.1 hr
    have := List.mem_range.1 hi
    rw [drR_okP _ _ _ _ (by omega)] at h2
    cases h2
  · intro h
    obtain ⟨v, hv, h2⟩ := List.any_eq_true.1 h
    have : ∃ k, v = drV B k := by
      unfold ppF at hv
      simp only [List.mem_cons, List.not_mem_nil, or_false] at hv
      rcases hv with rfl | rfl <;> exact ⟨_, rfl⟩
    obtain ⟨k, rfl⟩ := this
    rw [drV_okP] at h2
    cases h2
theorem run_bsV2 {ρ : Operand → Value} {o : Oper} {w : World} {x y : Operand} {u v : Ve} (ho : o.op = .buildSlice 28 2 #[(0, x), (1, y)]) (hx : ρ x = .agg (veR u).toArray) (hy : ρ y = .agg (veR v).toArray) :
    (execOp ρ o).run Try.prog w = .ok (.value (.slice (some ⟨w.heap.size, 0, none⟩) 2 2)) (w.alloc (.cells ([u, v].map veR).flatten.toArray 47)) := by
  have h : (Instr.buildSlice 28 2 #[(0, .agg (veR u).toArray), (1, .agg (veR v).toArray)]).run Try.prog w = .ok (.slice (some ⟨w.heap.size, 0, none⟩) 2 2) (w.alloc (.cells ([u, v].map veR).flatten.toArray 47)) := by kernel_rfl
  unfold execOp
  simp only [ho, hx, hy, List.map_toArray, List.map_cons, List.map_nil, Sem.run_bind, h, Sem.run_pure, Result.andThen_ok]
set_option maxHeartbeats 4000000 in
set_option maxRecDepth 100000 in
theorem ppparts_calls (p : Option Addr) (c : Nat) (B : List Int) (n wd k m : Int) (w : World) (hA : DrA w p B n wd) (hm : 0 ≤ m ∧ m < 256) :
    Calls Try.prog 5 #[.agg (ppC p c B n wd k m)] w (PpPost w (ppF B) (ppT B wd)) := by
  have e1 := Int.emod_nonneg m (show (3 : Int) ≠ 0 by omega)
  have e2 := Int.emod_lt_of_pos m (show (0 : Int) < 3 by omega)
  have e3 := Int.emod_nonneg (m / 3) (show (3 : Int) ≠ 0 by omega)
  have e4 := Int.emod_lt_of_pos (m / 3) (show (0 : Int) < 3 by omega)
  have e5 : 0 ≤ m / 3 := by omega
  obtain ⟨N, hN⟩ : ∃ N : Nat, (N : Int) = m % 3 := ⟨(m % 3).toNat, by omega⟩
  obtain ⟨M, hM⟩ : ∃ M : Nat, (M : Int) = m / 3 % 3 := ⟨(m / 3 % 3).toNat, by omega⟩
  have hN2 : N ≤ 2 := by omega
  have hM2 : M ≤ 2 := by omega
  have hTD : ppT B wd = drT B wd 0 8 := rfl
  have hFD : ppF B = [drV B 64, drV B 69] := rfl
  have hTl : (drT B wd 0 8).length = 8 := drT_len _ _ _ _
  unfold PpPost
  obtain ⟨C, hC⟩ : ∃ C, ppC p c B n wd k m = C := ⟨_, rfl⟩
  have g0 : C[0]? = some (.slice p B.length c) := by rw [← hC]; rfl
  have g1 : C[1]? = some (.int .u8 n) := by rw [← hC]; rfl
  have g2 : C[2]? = some (.int .u8 wd) := by rw [← hC]; rfl
  have g4 : C[4]? = some (.int .u8 m) := by rw [← hC]; rfl
  rw [hC]
  have hpre := Lib.hid (show Blk (w.alloc (.cells C 26)) w.heap.size C 26 ∧ DrA (w.alloc (.cells C 26)) p B n wd ∧ Below w.heap.size w (w.alloc (.cells C 26)) ∧ (w.alloc (.cells C 26)).heap.size = w.heap.size + 1 from
    ⟨Blk.new _ _ _, hA.below (new_below _ _), new_below _ _, by simp⟩)
  clear hA hC
  rw [hTD, hFD]
  clear hTD hFD
  have hcT := Lib.hid (fun wx (h : DrS wx (w.heap.size + 1) p c B n wd 0) => (drequests_calls (w.heap.size + 1) p c B n wd 0 8 wx h (by omega) (by omega)))
  have hcV := Lib.hid (fun wx (j : Int) (hj : 0 ≤ j ∧ j ≤ 100) (h : DrS wx (w.heap.size + 1) p c B n wd j) => dvehicle_calls (w.heap.size + 1) p c B n wd j wx h (by omega))
  have hcR := Lib.hid (fun wx (j : Int) (hj : 0 ≤ j ∧ j ≤ 100) (f : Int) (hf : 0 ≤ f ∧ f ≤ 10) (u : Nat) (hu : u ≤ 2) (h : DrS wx (w.heap.size + 1) p c B n wd j) => droute_calls (w.heap.size + 1) p c B n wd j f u wx h (by omega) (by omega) (by omega))
  rw [hTl] at hcT ⊢
  generalize drT B wd 0 8 = T at *
  go_enter Try.func5, Try.ntmps5
  go_upto_region 1 with fail
  refine wp_world' (fun wx => Blk wx w.heap.size C 26 ∧ DrA wx p B n wd ∧ Below w.heap.size w wx ∧ wx.heap.size = w.heap.size + 1) hpre.out ?_
  clear hpre
  rintro w1 ⟨hB, hD, hb, hz⟩
  have k0 := hB.cell g0
  have k1 := hB.cell g1
  have k2 := hB.cell g2
  have hS := hD.box c 0
  rw [hz] at hS
  have hpre := Lib.hid (show DrS (w1.alloc (.cells (drC p c B n wd 0) 24)) (w.heap.size + 1) p c B n wd 0 ∧ Blk (w1.alloc (.cells (drC p c B n wd 0) 24)) w.heap.size C 26 ∧ Below w.heap.size w (w1.alloc (.cells (drC p c B n wd 0) 24)) ∧ w.heap.size + 2 ≤ (w1.alloc (.cells (drC p c B n wd 0) 24)).heap.size from
    ⟨hS, hB.alloc _, hb.alloc (by omega) _, by simp; omega⟩)
  replace hz := Lib.hid hz
  clear hB hD hb hS
  go_upto_region 2 with (refine wpList_store_new rfl 24 _ _ rfl rfl rfl _ (drC p c B n wd 0) _ rfl rfl (by simp [drC, Value.oneCell']) (by kernel_rfl) ?_)
  rw [hz.out]
  refine wp_world' (fun wx => DrS wx (w.heap.size + 1) p c B n wd 0 ∧ Blk wx w.heap.size C 26 ∧ Below w.heap.size w wx ∧ w.heap.size + 2 ≤ wx.heap.size) hpre.out ?_
  clear hpre k0 k1 k2 hz
  rintro w2 ⟨hS, hB, hb, hz⟩
  have hT := Lib.hid (hcT.out w2 hS)
  replace hB := Lib.hid hB
  replace hb := Lib.hid hb
  replace hz := Lib.hid hz
  clear hS hcT
  go_wp2_with fail
  refine hT.out.mono ?_
  rintro e w3 ⟨⟨qT, dT, rfl, hdT, hdT2, hET, hqT⟩, hS3, hM3⟩
  have hb3 := Lib.hid (hb.out.trans (hM3.below hb.out.size (fun k h => by have : k = w.heap.size + 1 := h; omega)))
  have hB3 := hB.out.mod hM3 (by omega)
  have k4 := hB3.cell g4
  replace hET := Lib.hid hET
  replace hB3 := Lib.hid hB3
  have hqT' : Hid (∀ a, qT = some a → w.heap.size + 2 ≤ a.block) := Lib.hid fun a ha => Nat.le_trans hz.out (hqT a ha)
  have hV := Lib.hid (hcV.out w3 64 (by omega) hS3)
  have hM3z : Hid (w.heap.size + 2 ≤ w3.heap.size) := Lib.hid (Nat.le_trans hz.out hM3.size)
  clear hT hB hb hM3 hqT hS3
  go_upto_region 5 with fail
  replace hN := Lib.hid hN
  replace hM := Lib.hid hM
  rw [← hN.out, ← hM.out]
  clear k4 e1 e2 e3 e4 e5
  go_wp2_with fail
  refine hV.out.mono ?_
  rintro e w4 ⟨rfl, hS4, hM4⟩
  have hb4 := Lib.hid (hb3.out.trans (hM4.below hb3.out.size (fun k h => by have : k = w.heap.size + 1 := h; omega)))
  have hET4 := Lib.hid (els_modP hET.out hM4 (fun a ha _ e => by have := hqT'.out a ha; omega))
  have hV := Lib.hid (hcV.out w4 69 (by omega) hS4)
  have hz4 : Hid (w.heap.size + 2 ≤ w4.heap.size) := Lib.hid (by have := hM3z.out; have := hM4.size; omega)
  clear hcV hb3 hB3 hET hM4 hS4
  go_wp2_with fail
  refine hV.out.mono ?_
  clear hV
  rintro e w5 ⟨rfl, hS5, hM5⟩
  have hb5 := hb4.out.trans (hM5.below hb4.out.size (fun k h => by have : k = w.heap.size + 1 := h; omega))
  have hET5 := els_modP hET4.out hM5 (fun a ha _ e => by have := hqT'.out a ha; omega)
  have hz5 : w.heap.size + 2 ≤ w5.heap.size := by have := hz4.out; have := hM5.size; omega
  have P6 := Lib.hid (show DrS (w5.alloc (.cells (([drV B 64, drV B 69].map veR).flatten.toArray) 47)) (w.heap.size + 1) p c B n wd 74 ∧ Els (w5.alloc (.cells (([drV B 64, drV B 69].map veR).flatten.toArray) 47)) qT 10 (T.map rqV) ∧
      Els (w5.alloc (.cells (([drV B 64, drV B 69].map veR).flatten.toArray) 47)) (some ⟨w5.heap.size, 0, none⟩) 5 ([drV B 64, drV B 69].map veR) ∧ Below w.heap.size w (w5.alloc (.cells (([drV B 64, drV B 69].map veR).flatten.toArray) 47)) ∧ w.heap.size + 2 ≤ (w5.alloc (.cells (([drV B 64, drV B 69].map veR).flatten.toArray) 47)).heap.size from
    ⟨hS5.mod ((Mod.refl (fun _ => False) _).alloc _), hET5.below (new_below _ _), els_litP (Blk.new _ _ _) (veR_lenP _) (by simp), hb5.alloc hb5.size _, by simp; omega⟩)
  clear hS5 hM5 hb4 hET4 hz4 hb5 hET5
  go_upto_region 6 with (refine wpList_vw rfl _ (run_bsV2 rfl rfl rfl) ?_)
  refine wp_world' (fun wx => DrS wx (w.heap.size + 1) p c B n wd 74 ∧ Els wx qT 10 (T.map rqV) ∧ Els wx (some ⟨w5.heap.size, 0, none⟩) 5 ([drV B 64, drV B 69].map veR) ∧ Below w.heap.size w wx ∧ w.heap.size + 2 ≤ wx.heap.size) P6.out ?_
  clear P6
  rintro w6 ⟨hS6, hT6, hV6, hb6, hz6⟩
  have hR1 := hcR.out w6 74 (by omega) 0 (by omega) N hN2 hS6
  rw [Int.zero_add] at hR1
  replace hR1 := Lib.hid hR1
  replace hT6 := Lib.hid hT6
  replace hV6 := Lib.hid hV6
  replace hb6 := Lib.hid hb6
  clear hS6
  have hz5' : Hid (w5.heap.size ≠ w.heap.size + 1) := Lib.hid (by omega)
  have hq6 : Hid (∀ a, qT = some a → a.block ≠ w.heap.size + 1) := Lib.hid (fun a ha => by have := hqT'.out a ha; omega)
  clear hqT' hz5
  go_wp2_with fail
  refine hR1.out.mono ?_
  clear hR1
  rintro e w7 ⟨⟨q1, d1, rfl, _, _, _, _⟩, hS7, hM7⟩
  have hT7 := Lib.hid (els_modP hT6.out hM7 (fun a ha _ e => hq6.out a ha e))
  have hV7 := Lib.hid (els_modP hV6.out hM7 (fun a ha _ e => by cases ha; exact hz5'.out e))
  have hb7 := Lib.hid (hb6.out.trans (hM7.below hb6.out.size (fun k h => by have : k = w.heap.size + 1 := h; omega)))
  have hR2 := Lib.hid (hcR.out w7 (74 + 2 * (N : Int)) (by omega) (N : Int) (by omega) M hM2 hS7)
  clear hT6 hV6 hb6 hM7 hS7 hcR
  generalize (drRt B 74 0 N).length = n1 at *
  go_wp2_with fail
  refine hR2.out.mono ?_
  clear hR2
  rintro e w8 ⟨⟨q2, d2, rfl, _, _, _, _⟩, hS8, hM8⟩
  have hT8 := Lib.hid (els_modP hT7.out hM8 (fun a ha _ e => hq6.out a ha e))
  have hV8 := Lib.hid (els_modP hV7.out hM8 (fun a ha _ e => by cases ha; exact hz5'.out e))
  have hb8 := Lib.hid (hb7.out.trans (hM8.below hb7.out.size (fun k h => by have : k = w.heap.size + 1 := h; omega)))
  clear hT7 hV7 hb7 hM8 hS8
  generalize (drRt B (74 + 2 * (N : Int)) (N : Int) M).length = n2 at *
  go_wp2_with fail
  go_ret3
  exact ⟨⟨_, qT, _, 2, dT, 2, 2, rfl, hV8.out.below (new_below _ _), hT8.out.below (new_below _ _)⟩, hb8.out.alloc hb8.out.size _⟩
/-- what 'made' hands back: a plan that changes its own blocks alone -/
def MdPost14 (w : World) (F : List Ve) (T : List Rq) (e : Ending) (w' : World) : Prop :=
  ∃ (b gT gM N : Nat) (rows : List Rou2), e = .returned (.tuple #[.pointer (some ⟨b, 0, none⟩), .bool true]) ∧ N ≤ 8 ∧ PSt w.heap.size w' b gT gM N F rows T ∧ Below w.heap.size w w'
set_option maxHeartbeats 8000000 in
set_option maxRecDepth 100000 in
theorem made14_calls (q q' : Option Addr) (d d' : Nat) (F : List Ve) (T : List Rq) (pA : Option Addr) (cA : Nat) (acts : List Int) (w : World) (hF : Els w q 5 (F.map veR)) (hFl : F.length ≤ 1000) (hT : Els w q' 10 (T.map rqV)) (hTl : T.length ≤ 1000) (hnc : newC F T = 0)
    (hE : Els w pA 1 ((acts.take 8).map u8V)) (hbl : acts.length ≤ 9223372036854775807) (hr : ∀ a ∈ acts, 0 ≤ a ∧ a < 256) :
    Calls Try.prog 6 #[.slice q F.length d, .slice q' T.length d', .slice pA acts.length cA] w (MdPost14 w F T) := by
  have hnew := Lib.hid (pnew_calls q q' d d' F T w hF hFl hT hTl)
  unfold NwPost at hnew
  replace hE := Lib.hid hE
  replace hr := Lib.hid hr
  clear hF hT hFl
  go_enter Try.func6, Try.ntmps6
  go_wp2_with fail
  refine hnew.out.mono ?_
  rintro e w2 ⟨hb2, hor⟩
  rcases hor with ⟨h, _⟩ | ⟨_, b, gT, gM, G, rfl, hG, hPl⟩
  · exact absurd hnc h
  have hP := Lib.hid (PSt.new hG hPl hnc hTl)
  replace hb2 := Lib.hid hb2
  clear hG hPl hnew hTl hnc
  go_wp2_with fail
  go_loopw [10] (fun s10 wx => ∃ (i N : Nat) (rows : List Rou2), i ≤ acts.length ∧ i ≤ 8 ∧ s10 = .int .i64 i ∧ N ≤ i ∧ PSt w.heap.size wx b gT gM N F rows T ∧ Below w.heap.size w wx) (fun s10 _ => acts.length - (intOf s10).toNat)
  case atStart => exact ⟨0, 0, _, Nat.zero_le _, by omega, rfl, Nat.le_refl _, hP.out, hb2.out⟩
  case round =>
    clear hP hb2
    obtain ⟨i, N, rows, hi, hi8, rfl, hN, hP, hb⟩ := hrel
    by_cases hlt : i < acts.length ∧ i < 8
    · have hltI : (i : Int) < (acts.length : Int) := by omega
      have hlt8 : (i : Int) < 8 := by omega
      have hk0 : (0 : Int) ≤ (i : Int) := by omega
      have s1 : IntKind.i64.wrap ((i : Int) + 1) = (i : Int) + 1 := IntWalk.i64_in _ (by omega)
      obtain ⟨a, rfl⟩ := (hE.out.below hb).some_of (k := i) (by simp; omega)
      have c0 := (hE.out.below hb).cells a rfl i (u8V acts[i]) 0 (.int .u8 acts[i]) (by rw [List.getElem?_map, List.getElem?_take_of_lt hlt.2, List.getElem?_eq_getElem hlt.1]; rfl) rfl
      rw [Nat.mul_one, Nat.add_zero] at c0
      have hrg := hr.out _ (List.getElem_mem hlt.1)
      generalize acts[i] = x at *
      have e3 := Int.emod_nonneg x (show (8 : Int) ≠ 0 by omega)
      have e4 := Int.emod_lt_of_pos x (show (0 : Int) < 8 by omega)
      have hx0 : 0 ≤ x := hrg.1
      have hw : wf64 (x % 8) := by unfold wf64; omega
      have hpu := Lib.hid (hP.put (by omega) (x % 8) hw)
      have hgB := Lib.hid hP.gB
      replace hP := Lib.hid hP
      replace hb := Lib.hid hb
      go_wp2_with fail
      refine hpu.out.mono ?_
      rintro e w3 ⟨rfl, hP3, hm⟩
      have hb3 := Lib.hid (hb.out.trans (hm.below hb.out.size (fun k hk => by have := hgB.out; omega)))
      replace hP3 := Lib.hid hP3
      clear hpu hm hP hb
      go_wp2_with fail
      go_roundw
      case rel => exact ⟨i + 1, N + 1, _, by omega, by omega, by simp, by omega, hP3.out, hb3.out⟩
      case measure => simp [intOf]; omega
    · have hfin := Lib.hid (show MdPost14 w F T (.returned (.tuple #[.pointer (some ⟨b, 0, none⟩), .bool true])) wr from ⟨b, gT, gM, N, rows, rfl, by omega, hP, hb⟩)
      clear hP hb
      by_cases hl : i < acts.length
      · obtain rfl : i = 8 := by omega
        have hltI : (8 : Int) < (acts.length : Int) := by omega
        go_wp2_with fail
        go_ret2
        exact hfin.out
      · obtain rfl : i = acts.length := by omega
        go_wp2_with fail
        go_ret2
        exact hfin.out
end Go.Proofs.Ytpbmeeogledmdae
