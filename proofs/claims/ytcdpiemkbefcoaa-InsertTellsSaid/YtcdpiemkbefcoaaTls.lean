/-
  'InsertTells': it returns true.
-/
import Derived.Test.YtcdpiemkbefcoaaCs
import Derived.Test.YtcdpiemkbefcoaaRa
import Derived.Test.YtcdpiemkbefcoaaWk
namespace Go.Proofs.Ytcdpiemkbefcoaa
open Go.RowKit

set_option maxHeartbeats 4000000 in
set_option maxRecDepth 100000 in
theorem InsertTells_walk (p : Option Addr) (c : Nat) (B : List Int) (n wd k cap which : Int) (w : World) (hA : DrA w p B n wd) (hcap : 0 ≤ cap ∧ cap < 256) (hwh : 0 ≤ which ∧ which < 256) :
    Calls Try.prog 3 #[.agg (drC p c B n wd k), .int .u8 cap, .int .u8 which] w fun e w' => e = .returned (.bool true) ∧ Below w.heap.size w w' := by
  have hpc := Lib.hid (fun wx (h : DrA wx p B n wd) => dcase_calls p c B n wd k wx h)
  have hT6 : (dpT B n wd).length ≤ 6 := by rw [dpT_len]; exact dpN_le n
  have hL12 : (dcL B n wd).length ≤ 12 := by
    have h1 := woP_len (dpL B n) (((dpT B n wd).length : Int) - 1)
    have h2 := dpL_len B n
    have h3 := dpN_le n
    have h4 : (dcL B n wd).length ≤ (dpL B n).length := h1
    omega
  have hwk := Lib.hid works_calls
  have e1 := Int.emod_nonneg cap (show (40 : Int) ≠ 0 by omega)
  have e2 := Int.emod_lt_of_pos cap (show (0 : Int) < 40 by omega)
  have e3 := Int.emod_nonneg which (show (9 : Int) ≠ 0 by omega)
  have e4 := Int.emod_lt_of_pos which (show (0 : Int) < 9 by omega)
  unfold DcPost at hpc
  generalize dcL B n wd = L at *
  generalize dpT B n wd = T at *
  generalize dpV B n = V' at *
  obtain ⟨C, hC⟩ : ∃ C, drC p c B n wd k = C := ⟨_, rfl⟩
  have hCs : C.size = 4 := by rw [← hC]; rfl
  rw [hC] at hpc ⊢
  obtain ⟨V, hV⟩ : ∃ V, (veR V').toArray = V := ⟨_, rfl⟩
  have hVs : V.size = 5 := by rw [← hV]; rfl
  have hV1 : ∀ v ∈ V.toList, v.oneCell' = true := by rw [← hV]; simp [veR, Value.oneCell']
  obtain ⟨Y, hY⟩ : ∃ Y, V.setIfInBounds 2 (.int .i64 (1 + cap % 40)) = Y := ⟨_, rfl⟩
  have hYs : Y.size = 5 := by rw [← hY]; simpa using hVs
  have hal0 : ∀ (Z : Array Value), (Z = V ∨ Z = Y) → ∀ (wz : World) (qL qT : Option Addr) (dL dT : Nat), Els wz qL 2 (L.map stV) → (L.length ≤ dL ∧ dL ≤ 9223372036854775807) → Els wz qT 10 (T.map rqV) → ∀ req i j : Int,
      Calls Try.prog 11 #[.agg Z, .slice qL L.length dL, .slice qT T.length dT, .int .i64 req, .int .i64 i, .int .i64 j] wz fun e w' => e = .returned (.bool true) ∧ Below wz.heap.size wz w' := by
    rintro Z (rfl | rfl) wz qL qT dL dT hL hd hT req i j
    · rw [← hV]
      exact alike_calls (V' 0) (V' 1) (V' 2) (V' 3) (V' 4) req i j qL qT dL dT L T wz hL hd hT
    · rw [← hY, ← hV]
      exact alike_calls (V' 0) (V' 1) (1 + cap % 40) (V' 3) (V' 4) req i j qL qT dL dT L T wz hL hd hT
  replace hal0 := Lib.hid hal0
  have hV2 : V[2]? = some (.int .i64 (V' 2)) := by rw [← hV]; rfl
  rw [hV] at hpc
  replace hY := Lib.hid hY
  clear hV
  have hB0 := Blk.new w C 24
  have hb1 := new_below w (.cells C 24)
  have hA1 := hA.below hb1
  replace hB0 := Lib.hid hB0
  replace hb1 := Lib.hid hb1
  replace hA1 := Lib.hid hA1
  clear hA hC
  go_enter Try.func3, Try.ntmps3
  go_upto_region 1 with fail
  refine wp_world' (fun wx => Blk wx w.heap.size C 24 ∧ DrA wx p B n wd ∧ Below w.heap.size w wx) ⟨hB0.out, hA1.out, hb1.out⟩ ?_
  clear hB0 hA1 hb1
  rintro w1 ⟨hD, hA, hb⟩
  have hld := Lib.hid (run_load_row' (P := Try.prog) w1 _ 24 C 24 _ hD Try.underlying24 rfl (by rw [hCs]; kernel_rfl))
  replace hb := Lib.hid hb
  clear hD
  go_wp2_with (refine wpList_load_v rfl 24 _ rfl ⟨w.heap.size, 0, none⟩ rfl _ hld.out ?_)
  refine (hpc.out _ hA).mono ?_
  rintro e w2 ⟨⟨qL, dL, qT, dT, rfl, hdL, hdT, hEL, hET⟩, hb2⟩
  replace hb2 := hb.out.trans (hb2.mono hb.out.size)
  clear hpc hA hb hld
  have mA := (Mod.refl (fun _ => False) w2).alloc (.cells V 28)
  have P3 := Lib.hid (show Blk (w2.alloc (.cells V 28)) w2.heap.size V 28 ∧ Els (w2.alloc (.cells V 28)) qL 2 (L.map stV) ∧ Els (w2.alloc (.cells V 28)) qT 10 (T.map rqV) ∧ Below w.heap.size w (w2.alloc (.cells V 28)) from
    ⟨Blk.new _ _ _, hEL.modb mA (fun _ _ h => h), hET.modb mA (fun _ _ h => h), hb2.alloc hb2.size _⟩)
  clear mA hEL hET hb2
  go_upto_region 2 with (refine wpList_store_new rfl 28 _ _ rfl rfl rfl _ V _ rfl (by rw [hVs]; rfl) hV1 (by rw [hVs]; kernel_rfl) ?_)
  refine wp_world' (fun wx => Blk wx w2.heap.size V 28 ∧ Els wx qL 2 (L.map stV) ∧ Els wx qT 10 (T.map rqV) ∧ Below w.heap.size w wx) P3.out ?_
  clear P3
  generalize w2.heap.size = g7
  rintro w3 ⟨hB3, hEL, hET, hb3⟩
  have hlv := Lib.hid (run_load_row' (P := Try.prog) _ g7 28 V 28 _ hB3 Try.underlying28 rfl (by rw [hVs]; kernel_rfl))
  have mB := (Mod.refl (fun _ => False) w3).alloc (.cells V 28)
  have hB5 := Blk.new w3 V 28
  have mY := (Mod.refl (fun _ => False) w3).alloc (.cells Y 28)
  have P5 := Lib.hid (show Blk (w3.alloc (.cells Y 28)) g7 V 28 ∧ Blk (w3.alloc (.cells Y 28)) w3.heap.size Y 28 ∧ Els (w3.alloc (.cells Y 28)) qL 2 (L.map stV) ∧ Els (w3.alloc (.cells Y 28)) qT 10 (T.map rqV) ∧ Below w.heap.size w (w3.alloc (.cells Y 28)) from
    ⟨hB3.mod mY (fun h => h), Blk.new _ _ _, hEL.modb mY (fun _ _ h => h), hET.modb mY (fun _ _ h => h), hb3.alloc hb3.size _⟩)
  have k2 : (w3.alloc (.cells V 28)).cell? ⟨w3.heap.size, 2, none⟩ = some (.int .i64 (V' 2)) := hB5.cell hV2
  have f2 := hB5.froz 2
  clear hB3 mB hB5 mY hEL hET hb3
  go_upto_region 3 with (first | (refine wpList_load_v rfl 28 _ rfl ⟨g7, 0, none⟩ rfl _ hlv.out ?_) | (refine wpList_store_new rfl 28 _ _ rfl rfl rfl _ V _ rfl (by rw [hVs]; rfl) hV1 (by rw [hVs]; kernel_rfl) ?_))
  go_upto_region 4 with fail
  rw [hY.out]
  refine wp_world' (fun wx => Blk wx g7 V 28 ∧ Blk wx w3.heap.size Y 28 ∧ Els wx qL 2 (L.map stV) ∧ Els wx qT 10 (T.map rqV) ∧ Below w.heap.size w wx) P5.out ?_
  clear P5 k2 f2 hlv
  generalize w3.heap.size = g11
  rintro w4 ⟨hB, hY4, hEL, hET, hb⟩
  have hal := Lib.hid (fun (Z : Array Value) (hZ : Z = V ∨ Z = Y) (wx : World) (h : Below w4.heap.size w4 wx) => hal0.out Z hZ wx qL qT dL dT (hEL.below h) hdL (hET.below h))
  have hlV := Lib.hid (fun (wx : World) (h : Below w4.heap.size w4 wx) => run_load_row' (P := Try.prog) wx g7 28 V 28 _ (hB.mod ((Mod.refl (fun _ => False) _).after h) (fun h => h)) Try.underlying28 rfl (by rw [hVs]; kernel_rfl))
  have hlY := Lib.hid (fun (wx : World) (h : Below w4.heap.size w4 wx) => run_load_row' (P := Try.prog) wx g11 28 Y 28 _ (hY4.mod ((Mod.refl (fun _ => False) _).after h) (fun h => h)) Try.underlying28 rfl (by rw [hYs]; kernel_rfl))
  have hb0 := Below.refl w4.heap.size w4
  replace hb := Lib.hid hb
  clear hB hY4 hEL hET hal0 hdL hdT hY hV2 hV1
  go_wp2_with fail
  go_loopw [12] (fun s12 wx => ∃ i : Nat, i ≤ L.length + 3 ∧ s12 = .int .i64 ((i : Int) - 1) ∧ Below w4.heap.size w4 wx) (fun s12 _ => L.length + 3 - (intOf s12 + 1).toNat)
  case atStart => exact ⟨0, by omega, rfl, hb0⟩
  case round =>
    clear hb0
    obtain ⟨i, hi, rfl, hb1⟩ := hrel
    have s3 : IntKind.i64.wrap ((L.length : Int) + 1) = (L.length : Int) + 1 := IntWalk.i64_in _ (by omega)
    by_cases hlt : i < L.length + 3
    · have hltI : (i : Int) - 1 ≤ (L.length : Int) + 1 := by omega
      have s1 : IntKind.i64.wrap ((i : Int) - 1 + 1) = (i : Int) - 1 + 1 := IntWalk.i64_in _ (by omega)
      go_wp2_with fail
      go_loopw [13] (fun s13 wx => ∃ j : Nat, j ≤ L.length + 3 ∧ s13 = .int .i64 ((j : Int) - 1) ∧ Below w4.heap.size w4 wx) (fun s13 _ => L.length + 3 - (intOf s13 + 1).toNat)
      case atStart => exact ⟨0, by omega, rfl, hb1⟩
      case round =>
        clear hb1
        obtain ⟨j, hj, rfl, hb1⟩ := hrel
        by_cases hltj : j < L.length + 3
        · have hltJ : (j : Int) - 1 ≤ (L.length : Int) + 1 := by omega
          have s2 : IntKind.i64.wrap ((j : Int) - 1 + 1) = (j : Int) - 1 + 1 := IntWalk.i64_in _ (by omega)
          have hl1 := Lib.hid (hlV.out _ hb1)
          have hc1 := Lib.hid (hal.out V (.inl rfl) _ hb1 ((T.length : Int) - 1) ((i : Int) - 1) ((j : Int) - 1))
          go_wp2_with (refine wpList_load_v rfl 28 _ rfl ⟨g7, 0, none⟩ rfl _ hl1.out ?_)
          refine hc1.out.mono ?_
          rintro e w6 ⟨rfl, hb6⟩
          replace hb6 := hb1.trans (hb6.mono hb1.size)
          have hl2 := Lib.hid (hlY.out _ hb6)
          have hc2 := Lib.hid (hal.out Y (.inr rfl) _ hb6 ((T.length : Int) - 1) ((i : Int) - 1) ((j : Int) - 1))
          clear hl1 hc1 hb1
          go_wp2_with (refine wpList_load_v rfl 28 _ rfl ⟨g11, 0, none⟩ rfl _ hl2.out ?_)
          refine hc2.out.mono ?_
          rintro e w7 ⟨rfl, hb7⟩
          replace hb7 := hb6.trans (hb7.mono hb6.size)
          clear hl2 hc2 hb6
          go_wp2_with fail
          go_roundw
          case rel => exact ⟨j + 1, by omega, congrArg _ (by omega), hb7⟩
          case measure => simp [intOf]; omega
        · have hltJ : ¬ (j : Int) - 1 ≤ (L.length : Int) + 1 := by omega
          go_wp2_with fail
          go_roundw
          case rel => exact ⟨i + 1, by omega, congrArg _ (by omega), hb1⟩
          case measure => simp [intOf]; omega
    · have hltI : ¬ (i : Int) - 1 ≤ (L.length : Int) + 1 := by omega
      have hl1 := Lib.hid (hlV.out _ hb1)
      have hc1 := Lib.hid (hal.out V (.inl rfl) _ hb1 (which % 9 - 1) 0 0)
      have s5 : IntKind.i64.wrap (which % 9) = which % 9 := IntWalk.i64_in _ (by omega)
      have s6 : IntKind.i64.wrap (which % 9 - 1) = which % 9 - 1 := IntWalk.i64_in _ (by omega)
      go_wp2_with (refine wpList_load_v rfl 28 _ rfl ⟨g7, 0, none⟩ rfl _ hl1.out ?_)
      refine hc1.out.mono ?_
      rintro e w6 ⟨rfl, hb6⟩
      replace hb6 := hb1.trans (hb6.mono hb1.size)
      clear hl1 hc1 hb1 hal hlV hlY
      go_wp2_with fail
      refine (hwk.out _).mono ?_
      rintro e w7 ⟨rfl, hb7⟩
      replace hb7 := hb.out.trans ((hb6.trans (hb7.mono hb6.size)).mono hb.out.size)
      clear hb6 hwk
      go_wp2_with fail
      go_ret
      exact ⟨rfl, hb7⟩
end Go.Proofs.Ytcdpiemkbefcoaa
