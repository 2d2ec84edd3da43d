/-
  Layer 8: LoadTells: it returns true.
-/
import Derived.Test.YtaijimckbpplnaaDw
namespace Go.Proofs.Ytaijimckbpplnaa
open Go.RowKit

def veA (x y cp st en : Int) : Array Value := #[.int .i64 x, .int .i64 y, .int .i64 cp, .int .i64 st, .int .i64 en]
theorem run_bv2 (x y cp st en x' y' cp' st' en' : Int) (w : World) : (Instr.build 44 #[(0, .agg (veA x y cp st en)), (1, .agg (veA x' y' cp' st' en'))]).run Try.prog w =
    .ok (.agg #[.int .i64 x, .int .i64 y, .int .i64 cp, .int .i64 st, .int .i64 en, .int .i64 x', .int .i64 y', .int .i64 cp', .int .i64 st', .int .i64 en']) w := by kernel_rfl
theorem run_iv (x y cp st en x' y' cp' st' en' : Int) (j : Nat) (hj : j < 2) : ∃ a b c d f : Int, ∀ w, (Instr.index 44 (.agg #[.int .i64 x, .int .i64 y, .int .i64 cp, .int .i64 st, .int .i64 en, .int .i64 x', .int .i64 y', .int .i64 cp', .int .i64 st', .int .i64 en']) (.int .i64 (j : Int))).run Try.prog w =
    .ok (.agg (veA a b c d f)) w := by
  rcases (show j = 0 ∨ j = 1 by omega) with rfl | rfl
  · exact ⟨x, y, cp, st, en, fun w => by kernel_rfl⟩
  · exact ⟨x', y', cp', st', en', fun w => by kernel_rfl⟩
theorem run_b2i (a b : Int) (w : World) : (Instr.build 47 #[(0, .int .i64 a), (1, .int .i64 b)]).run Try.prog w = .ok (.agg #[.int .i64 a, .int .i64 b]) w := by kernel_rfl
theorem run_i2 (a b : Int) (j : Nat) (hj : j < 2) : ∃ c : Int, ∀ w, (Instr.index 47 (.agg #[.int .i64 a, .int .i64 b]) (.int .i64 (j : Int))).run Try.prog w = .ok (.int .i64 c) w := by
  rcases (show j = 0 ∨ j = 1 by omega) with rfl | rfl
  · exact ⟨a, fun w => by kernel_rfl⟩
  · exact ⟨b, fun w => by kernel_rfl⟩
theorem kk_of (n : Nat) (k : Int) : ∃ K : Nat, (K : Int) = if 0 < (if (n : Int) < k then (n : Int) else k) then (if (n : Int) < k then (n : Int) else k) else 0 := by
  refine ⟨(if 0 < (if (n : Int) < k then (n : Int) else k) then (if (n : Int) < k then (n : Int) else k) else 0).toNat, ?_⟩
  split <;> (try split at *) <;> omega
theorem ints_same (p q : Option Addr) (c d : Nat) (A : List Int) (w : World) (hA : Els w p 1 (A.map inV)) (hB : Els w q 1 (A.map inV)) :
    Calls Try.prog 12 #[.slice p A.length c, .slice q A.length d] w fun e w' => e = .returned (.bool true) ∧ Below w.heap.size w w' := by
  have h := ints_calls p q c d A A w hA hB
  rw [decide_eq_true rfl] at h
  exact h
set_option maxHeartbeats 8000000 in
set_option maxRecDepth 100000 in
theorem tells_calls (p p' ps : Option Addr) (c c' cs : Nat) (ns B : List Int) (S : List (Int × Int)) (cp x y z : Int) (vx vy vc vs ve k : Int) (w : World)
    (hN : Els w p 1 ((ns.take 12).map u16V)) (hnb : ns.length ≤ 9223372036854775807) (hr : ∀ n ∈ ns, 0 ≤ n ∧ n < 65536)
    (hB : Els w p' 1 ((B.take 12).map u8C)) (hbb : B.length ≤ 9223372036854775807) (hbr : ∀ n ∈ B, 0 ≤ n ∧ n < 256)
    (hS : Els w ps 2 ((S.take 20).map stV)) (hSc : S.length ≤ cs ∧ cs ≤ 9223372036854775807) (hSw : ∀ s ∈ S, wf64 s.1)
    (hcp : 0 ≤ cp ∧ cp < 65536) (hx : 0 ≤ x ∧ x < 256) (hy : 0 ≤ y ∧ y < 256) (hz : 0 ≤ z ∧ z < 256) :
    Calls Try.prog 3 #[.agg (dwC p p' ps ns.length c B.length c' S.length cs cp x y z), .agg (veA vx vy vc vs ve), .int .i64 k] w fun e w' => e = .returned (.bool true) ∧ Below w.heap.size w w' := by
  have hP0 := fun wx (h : Below w.heap.size w wx) => dparts_calls p p' ps c c' cs ns B S cp x y z wx (hN.below h) hnb hr (hB.below h) hbb hbr (hS.below h) hSc hSw hx hy hz
  have hW := Lib.hid (fun w => works8_calls w)
  clear hN hB hr hbr hS hSw
  obtain ⟨C, hC⟩ : ∃ C : Array Value, dwC p p' ps ns.length c B.length c' S.length cs cp x y z = C := ⟨_, rfl⟩
  have g2 : C[2]? = some (.int .u16 cp) := by rw [← hC]; rfl
  have hc7 : C.size = 7 := by rw [← hC]; rfl
  have hB0 := Lib.hid (Blk.new w C 28)
  rw [hC] at hP0
  rw [hC]
  clear hC hnb hbb hSc hx hy hz
  obtain ⟨V, hV⟩ : ∃ V : Array Value, veA vx vy vc vs ve = V := ⟨_, rfl⟩
  rw [hV]
  replace hP0 := Lib.hid hP0
  replace hV := Lib.hid hV
  replace hc7 := Lib.hid hc7
  go_enter Try.func3, Try.ntmps3
  go_upto_region 1 with fail
  refine wp_world' (fun wx => Blk wx w.heap.size C 28 ∧ Blk wx (w.heap.size + 1) V 32 ∧ Below w.heap.size w wx)
    ⟨hB0.out.alloc _, Blk.new' _ _ _ _, (new_below _ _).alloc (by simp) _⟩ ?_
  clear hB0
  rintro w1 ⟨hD, hVb, hb1⟩
  have hlt1 := hVb.lt
  have hld := Lib.hid (run_load_row' (P := Try.prog) w1 w.heap.size 28 C 28 _ hD Try.underlying28 rfl (by rw [hc7.out]; kernel_rfl))
  replace hD := Lib.hid hD
  replace hVb := Lib.hid hVb
  go_wp2_with (first | (refine wpList_load_v rfl 28 _ rfl ⟨w.heap.size, 0, none⟩ rfl _ hld.out ?_))
  refine (hP0.out _ hb1).mono ?_
  rintro e w2 ⟨⟨T, M, N, O, qT, qM, qN, qO, dT, dM, dN, dO, rfl, hT, hM, hN, hO, hdM, hdN, hdO, hlen, hwM, hwN, hwO⟩, hb2⟩
  have hM2 := (Mod.refl (fun _ => False) w1).after hb2
  replace hD := hD.out.mod hM2 (fun h => h)
  replace hVb := hVb.out.mod hM2 (fun h => h)
  replace hb2 := Lib.hid (hb1.trans (hb2.mono hb1.size))
  replace hT := Lib.hid hT
  replace hM := Lib.hid hM
  replace hN := Lib.hid hN
  replace hO := Lib.hid hO
  replace hwM := Lib.hid hwM
  replace hwN := Lib.hid hwN
  replace hwO := Lib.hid hwO
  have hB2 := Lib.hid (Blk.new w2 #[.slice qM M.length dM, .slice qN N.length dN, .slice qO O.length dO] 34)
  have hD2 := Lib.hid (hD.alloc (.cells #[.slice qM M.length dM, .slice qN N.length dN, .slice qO O.length dO] 34))
  have hV2 := Lib.hid (hVb.alloc (.cells #[.slice qM M.length dM, .slice qN N.length dN, .slice qO O.length dO] 34))
  clear hD hVb hM2 hld hP0 hb1
  go_upto_region 2 with (first | (refine wpList_store_new rfl 34 _ _ rfl rfl rfl _ #[.slice qM M.length dM, .slice qN N.length dN, .slice qO O.length dO] _ rfl rfl (fun v hv => by simp at hv; rcases hv with rfl | rfl | rfl <;> rfl) (by kernel_rfl) ?_))
  refine wp_world' (fun wx => Blk wx w.heap.size C 28 ∧ Blk wx (w.heap.size + 1) V 32 ∧ Blk wx w2.heap.size #[.slice qM M.length dM, .slice qN N.length dN, .slice qO O.length dO] 34 ∧ Below w2.heap.size w2 wx)
    ⟨hD2.out, hV2.out, hB2.out, new_below _ _⟩ ?_
  clear hD2 hV2 hB2
  rintro w3 ⟨hD, hVb, hR, hb3⟩
  have k2 := hD.cell g2
  have h23 := hb3.size
  have hr3 := hR.lt
  obtain ⟨CP, hCP⟩ : ∃ CP, 1 + cp % 6000 = CP := ⟨_, rfl⟩
  have hm1 := Int.emod_nonneg cp (show (6000 : Int) ≠ 0 by omega)
  have hm2 := Int.emod_lt_of_pos cp (show (0 : Int) < 6000 by omega)
  have s1 : IntKind.i64.wrap cp = cp := IntWalk.i64_in _ (by omega)
  have s2 : IntKind.i64.wrap (1 + cp % 6000) = 1 + cp % 6000 := IntWalk.i64_in _ (by omega)
  have hv1 := Lib.hid (run_ve1 CP)
  rw [hCP] at s2
  have hB3 := Lib.hid (Blk.new w3 (veA 0 0 CP 0 0) 32)
  have hV3 := Lib.hid (hVb.alloc (.cells (veA 0 0 CP 0 0) 32))
  have hR3 := Lib.hid (hR.alloc (.cells (veA 0 0 CP 0 0) 32))
  replace hb2 := Lib.hid (hb2.out.trans (hb3.mono hb2.out.size))
  replace hb3 := Lib.hid hb3
  clear hD hVb hR
  go_upto_region 3 with (first | (refine wpList_build1_v rfl 32 1 _ rfl (.int .i64 CP) (by simp only [Act.eval]; go_simp) _ (hv1.out _) ?_) | (refine wpList_store_new rfl 32 _ _ rfl rfl rfl _ (veA 0 0 CP 0 0) _ rfl rfl (fun v hv => by simp [veA] at hv; rcases hv with rfl | rfl | rfl | rfl | rfl <;> rfl) (by kernel_rfl) ?_))
  refine wp_world' (fun wx => Blk wx (w.heap.size + 1) V 32 ∧ Blk wx w2.heap.size #[.slice qM M.length dM, .slice qN N.length dN, .slice qO O.length dO] 34 ∧ Blk wx w3.heap.size (veA 0 0 CP 0 0) 32 ∧ Below w3.heap.size w3 wx)
    ⟨hV3.out, hR3.out, hB3.out, new_below _ _⟩ ?_
  clear hV3 hR3 hB3 hv1 s1 s2 hm1 hm2 hCP k2 hc7 g2
  rintro w4 ⟨hVb, hR, hZ, hb4⟩
  have hb24 := hb3.out.trans (hb4.mono hb3.out.size)
  replace hb2 := Lib.hid (hb2.out.trans (hb4.mono hb2.out.size))
  have hrow : Hid (∀ i : Nat, i < 3 → ∃ (q : Option Addr) (l : List (Int × Int)) (d : Nat), (∀ wx, Below w4.heap.size w4 wx → wx.cell? ⟨w2.heap.size, i, none⟩ = some (.slice q l.length d)) ∧ Els w4 q 2 (l.map stV) ∧ (l.length ≤ d ∧ d ≤ 9223372036854775807) ∧ l.length ≤ 100 ∧ ∀ s ∈ l, wf64 s.1) := Lib.hid (fun i hi => by
    rcases (show i = 0 ∨ i = 1 ∨ i = 2 by omega) with rfl | rfl | rfl
    · exact ⟨qM, M, dM, fun wx h => (hR.mod ((Mod.refl (fun _ => False) w4).after h) (fun h => h)).cell rfl, hM.out.below hb24, hdM, hlen.1, hwM.out⟩
    · exact ⟨qN, N, dN, fun wx h => (hR.mod ((Mod.refl (fun _ => False) w4).after h) (fun h => h)).cell rfl, hN.out.below hb24, hdN, hlen.2.1, hwN.out⟩
    · exact ⟨qO, O, dO, fun wx h => (hR.mod ((Mod.refl (fun _ => False) w4).after h) (fun h => h)).cell rfl, hO.out.below hb24, hdO, hlen.2.2, hwO.out⟩)
  replace hT := Lib.hid (hT.out.below hb24)
  have hlv := Lib.hid (fun wx (h : Below w4.heap.size w4 wx) => run_load_row' (P := Try.prog) wx (w.heap.size + 1) 32 V 32 _ (hVb.mod ((Mod.refl (fun _ => False) w4).after h) (fun h => h)) Try.underlying32 rfl (by rw [← hV.out]; kernel_rfl))
  have hlz := Lib.hid (fun wx (h : Below w4.heap.size w4 wx) => run_load_row' (P := Try.prog) wx w3.heap.size 32 (veA 0 0 CP 0 0) 32 _ (hZ.mod ((Mod.refl (fun _ => False) w4).after h) (fun h => h)) Try.underlying32 rfl (by kernel_rfl))
  clear hVb hR hZ hb4 hb3 hb24 hM hN hO hwM hwN hwO hdM hdN hdO hlen
  go_wp2_with fail
  go_loopw [10] (fun s10 wx => ∃ i : Nat, i ≤ 3 ∧ s10 = .int .i64 i ∧ Below w4.heap.size w4 wx) (fun s10 _ => 3 - (intOf s10).toNat)
  case atStart => exact ⟨0, by omega, rfl, Below.refl _ _⟩
  case round =>
    obtain ⟨i, hi, rfl, hb⟩ := hrel
    by_cases hlt : i < 3
    · have hltI : (i : Int) < 3 := by omega
      have hi0 : (0 : Int) ≤ (i : Int) := by omega
      have s1 : IntKind.i64.wrap ((i : Int) + 1) = (i : Int) + 1 := IntWalk.i64_in _ (by omega)
      obtain ⟨q, l, d, hcell, hL, hd, hl, hw⟩ := hrow.out i hlt
      have kc := hcell wr hb
      obtain ⟨R, hRR⟩ : ∃ R, prP l T = R := ⟨_, rfl⟩
      obtain ⟨K, hKK⟩ : ∃ K, pkP l T = K := ⟨_, rfl⟩
      have c1 := fun wx (h : Below w4.heap.size w4 wx) => profile_calls q qT d dT l T wx (hL.below h) (hT.out.below h)
      have c2 := fun wx (h : Below w4.heap.size w4 wx) => rprofile_calls q qT d dT l T wx (hL.below h) hd (hT.out.below h)
      have c3 := fun wx (h : Below w4.heap.size w4 wx) => peak_calls q qT d dT l T wx (hL.below h) (hT.out.below h)
      have c4 := fun wx (h : Below w4.heap.size w4 wx) => rpeak_calls q qT d dT l T wx (hL.below h) hd (hT.out.below h)
      rw [hRR] at c1 c2
      rw [hKK] at c3 c4
      unfold PrPost at c1 c2
      replace c1 := Lib.hid c1
      replace c2 := Lib.hid c2
      replace c3 := Lib.hid c3
      replace c4 := Lib.hid c4
      have c5 := Lib.hid (fun wx (h : Below w4.heap.size w4 wx) x y cp st en => fits_calls x y cp st en q qT d dT l T wx (hL.below h) (hT.out.below h))
      have c6 := Lib.hid (fun wx (h : Below w4.heap.size w4 wx) x y cp st en => rfits_calls x y cp st en q qT d dT l T wx (hL.below h) hd (hT.out.below h))
      have c7 := Lib.hid (fun wx (h : Below w4.heap.size w4 wx) k K hK => open_calls q d l k K wx (hL.below h) (by omega) hd hw hK)
      have c8 := Lib.hid (fun wx (h : Below w4.heap.size w4 wx) k K hK => ropen_calls q d l k K wx (hL.below h) (by omega) hK)
      replace hb := Lib.hid hb
      clear hcell hL hw hRR hKK
      go_wp2_with fail
      refine (c1.out wr hb.out).mono ?_
      rintro e wa ⟨⟨qa, da, rfl, hda, hA⟩, hba⟩
      replace hba := hb.out.trans (hba.mono hb.out.size)
      replace hA := Lib.hid hA
      go_wp2_with fail
      refine (c2.out wa hba).mono ?_
      rintro e wb ⟨⟨qb, db, rfl, hdb, hB⟩, hbb⟩
      have hA2 := Lib.hid (hA.out.below hbb)
      replace hbb := hba.trans (hbb.mono hba.size)
      replace hB := Lib.hid hB
      clear hA hba hb kc
      go_wp2_with fail
      refine (c3.out wb hbb).mono ?_
      rintro e wc ⟨rfl, hbc⟩
      have hA3 := Lib.hid (hA2.out.below hbc)
      have hB3 := Lib.hid (hB.out.below hbc)
      replace hbc := hbb.trans (hbc.mono hbb.size)
      clear hA2 hB hbb
      go_wp2_with fail
      refine (c4.out wc hbc).mono ?_
      rintro e wd ⟨rfl, hbd⟩
      have h5 := Lib.hid (ints_same qa qb da db R.1 wd (hA3.out.below hbd) (hB3.out.below hbd))
      replace hbd := Lib.hid (hbc.trans (hbd.mono hbc.size))
      clear hA3 hB3 hbc c1 c2 c3 c4
      go_wp2_with fail
      refine h5.out.mono ?_
      rintro e we ⟨rfl, hbe⟩
      replace hbe := hbd.out.trans (hbe.mono hbd.out.size)
      clear hbd h5
      go_upto_region 13 with fail
      have hVe := hlv.out we hbe
      rw [← hV.out] at hVe
      replace hVe := Lib.hid hVe
      have hZe := Lib.hid (hlz.out we hbe)
      have hbv := Lib.hid (run_bv2 vx vy vc vs ve 0 0 CP 0 0)
      replace hbe := Lib.hid hbe
      go_wp2_with (first | (refine wpList_load_v rfl 32 _ rfl ⟨w.heap.size + 1, 0, none⟩ rfl _ hVe.out ?_) | (refine wpList_load_v rfl 32 _ rfl ⟨w3.heap.size, 0, none⟩ rfl _ hZe.out ?_) |
        (refine wpList_buildn_v rfl 44 _ rfl #[(0, .agg (veA vx vy vc vs ve)), (1, .agg (veA 0 0 CP 0 0))] (by kernel_rfl) _ (hbv.out _) ?_))
      clear hVe hZe hbv
      go_loopw [92] (fun s92 wx => ∃ j : Nat, j ≤ 2 ∧ s92 = .int .i64 j ∧ Below w4.heap.size w4 wx) (fun s92 _ => 2 - (intOf s92).toNat)
      case atStart => exact ⟨0, by omega, rfl, hbe.out⟩
      case round =>
        clear hbe
        obtain ⟨j, hj, rfl, hb⟩ := hrel
        by_cases hjl : j < 2
        · have hjI : (j : Int) < 2 := by omega
          have hj0 : (0 : Int) ≤ (j : Int) := by omega
          have s2 : IntKind.i64.wrap ((j : Int) + 1) = (j : Int) + 1 := IntWalk.i64_in _ (by omega)
          obtain ⟨va, vb, vd, vf, vg, hix0⟩ := run_iv vx vy vc vs ve 0 0 CP 0 0 j hjl
          have hix := Lib.hid hix0
          obtain ⟨F, hF⟩ : ∃ F, fitP va vb vd vf vg l T = F := ⟨_, rfl⟩
          have d5 := fun wx h => c5.out wx h va vb vd vf vg
          have d6 := fun wx h => c6.out wx h va vb vd vf vg
          rw [hF] at d5 d6
          replace d5 := Lib.hid d5
          replace d6 := Lib.hid d6
          have hBn := Lib.hid (Blk.new wr (veA va vb vd vf vg) 32)
          have hbn := Lib.hid (hb.trans ((new_below wr (.cells (veA va vb vd vf vg) 32)).mono hb.size))
          have hlr := Lib.hid (fun wx (h : Mod (fun _ => False) (wr.alloc (.cells (veA va vb vd vf vg) 32)) wx) => run_load_row' (P := Try.prog) wx wr.heap.size 32 _ 32 _ (hBn.out.mod h (fun h => h)) Try.underlying32 rfl (by kernel_rfl))
          have hl1 := Lib.hid (hlr.out _ (Mod.refl _ _))
          clear hF hix0 hb hBn
          go_wp2_with (first | (refine wpList_ix rfl 44 _ _ rfl _ _ rfl rfl _ (hix.out _) ?_) |
            (refine wpList_store_new rfl 32 _ _ rfl rfl rfl _ (veA va vb vd vf vg) _ rfl rfl (fun v hv => by simp [veA] at hv; rcases hv with rfl | rfl | rfl | rfl | rfl <;> rfl) (by kernel_rfl) ?_) |
            (refine wpList_load_v rfl 32 _ rfl ⟨wr.heap.size, 0, none⟩ rfl _ hl1.out ?_))
          refine (d5.out _ hbn.out).mono ?_
          rintro e wf ⟨rfl, hbf⟩
          have hl2 := Lib.hid (hlr.out wf ((Mod.refl _ _).after hbf))
          replace hbf := hbn.out.trans (hbf.mono hbn.out.size)
          clear hbn hl1 hlr hix
          go_wp2_with (first | (refine wpList_load_v rfl 32 _ rfl ⟨wr.heap.size, 0, none⟩ rfl _ hl2.out ?_))
          refine (d6.out _ hbf).mono ?_
          rintro e wg ⟨rfl, hbg⟩
          replace hbg := Lib.hid (hbf.trans (hbg.mono hbf.size))
          clear hbf hl2 d5 d6
          go_wp2_with fail
          go_roundw
          case rel => exact ⟨j + 1, by omega, by simp, hbg.out⟩
          case measure => simp [intOf]; omega
        · obtain rfl : j = 2 := by omega
          replace hb := Lib.hid hb
          go_upto_region 21 with fail
          clear c5 c6
          go_wp2_with fail
          generalize wrap64 ((IntKind.u64.wrap k).tmod 20) = kk
          go_loopw [124] (fun s124 wx => ∃ j : Nat, j ≤ 2 ∧ s124 = .int .i64 j ∧ Below w4.heap.size w4 wx) (fun s124 _ => 2 - (intOf s124).toNat)
          case atStart => exact ⟨0, by omega, rfl, hb.out⟩
          case round =>
            clear hb hj hjl
            obtain ⟨j, hj, rfl, hb⟩ := hrel
            by_cases hjl : j < 2
            · have hjI : (j : Int) < 2 := by omega
              have hj0 : (0 : Int) ≤ (j : Int) := by omega
              have s2 : IntKind.i64.wrap ((j : Int) + 1) = (j : Int) + 1 := IntWalk.i64_in _ (by omega)
              obtain ⟨X, hix0⟩ := run_i2 k kk j hjl
              obtain ⟨N, hN⟩ := kk_of l.length X
              have hix := Lib.hid hix0
              have d7 := Lib.hid (c7.out wr hb X N hN)
              have d8 := Lib.hid (fun wx h => c8.out wx h X N hN)
              replace hb := Lib.hid hb
              clear hix0 hN
              go_wp2_with (first | (refine wpList_ix rfl 47 _ _ rfl _ _ rfl rfl _ (hix.out _) ?_))
              refine d7.out.mono ?_
              rintro e wf ⟨⟨qf, df, rfl, hdf, hF⟩, hbf⟩
              replace hbf := hb.out.trans (hbf.mono hb.out.size)
              replace hF := Lib.hid hF
              clear hix d7 hb
              go_wp2_with fail
              refine (d8.out wf hbf).mono ?_
              rintro e wg ⟨⟨qg, dg, rfl, hdg, hG⟩, hbg⟩
              have h9 := Lib.hid (ints_same qf qg df dg (openD l N) wg (hF.out.below hbg) hG)
              replace hbg := Lib.hid (hbf.trans (hbg.mono hbf.size))
              clear hbf hF hG d8
              go_wp2_with fail
              refine h9.out.mono ?_
              rintro e wh ⟨rfl, hbh⟩
              replace hbh := Lib.hid (hbg.out.trans (hbh.mono hbg.out.size))
              clear h9 hbg
              go_wp2_with fail
              go_roundw
              case rel =>
                repeat apply Exists.intro
                exact ⟨⟨j + 1, by omega, by simp, hbh.out⟩, rfl⟩
              case measure => simp [intOf]; omega
            · obtain rfl : j = 2 := by omega
              replace hb := Lib.hid hb
              go_wp2_with fail
              go_roundw
              case rel => exact ⟨i + 1, by omega, by simp, hb.out⟩
              case measure => simp [intOf]; omega
    · obtain rfl : i = 3 := by omega
      have hfin := Lib.hid (hb2.out.trans (hb.mono hb2.out.size))
      clear hb
      go_wp2_with fail
      refine (hW.out _).mono ?_
      rintro e wz ⟨rfl, hbz⟩
      have hf2 := hfin.out.trans (hbz.mono hfin.out.size)
      go_wp2_with fail
      go_ret
      exact ⟨rfl, hf2⟩
end Go.Proofs.Ytaijimckbpplnaa
