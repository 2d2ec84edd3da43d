/-
  'InsertKnown': it returns true.
-/
import Derived.Test.YtcdpiemkbefcoaaKnF
namespace Go.Proofs.Ytcdpiemkbefcoaa
open Go.RowKit
attribute [local go_sem] Oper.semAt_some

set_option maxHeartbeats 4000000 in
set_option maxRecDepth 100000 in
theorem InsertKnown_walk (w : World) : Calls Try.prog 7 #[] w fun e w' => e = .returned (.bool true) ∧ Below w.heap.size w w' := by
  have hch := Lib.hid chapter_calls
  have hWK := Lib.hid works_calls
  refine calls_of_all fun n => ?_
  refine callsIn_of_wp_marks Try.func7 rfl trivial ?_ rfl
  simp only [Try.ntmps7, List.size_toArray, List.length_nil, Nat.reduceSub, Array.replicate_succ, Array.replicate_zero, List.push_toArray, List.append_toArray, List.nil_append, List.cons_append]
  refine wpIn_wide.2 ?_
  go_upto_region 1 with fail
  refine wp_world' (fun wx => Blk wx w.heap.size #[.bool false] 4 ∧ Below w.heap.size w wx) ⟨Blk.new _ _ _, new_below _ _⟩ ?_
  rintro w1 ⟨hR, hb⟩
  go_wp2_with fail
  refine (hch.out _).mono ?_
  rintro e w2 ⟨⟨a, b, rfl, hl, ht⟩, hb2⟩
  replace hR := hR.mod ((Mod.refl (fun _ => False) _).after hb2) (fun h => h)
  replace hb := hb.trans (hb2.mono hb.size)
  clear hb2 hch
  have hR2 := Lib.hid (hR.alloc (.cells vC 28))
  have hl2 := Lib.hid (hl.below (new_below w2 (.cells vC 28)))
  have ht2 := Lib.hid (ht.below (new_below w2 (.cells vC 28)))
  have hb2 := Lib.hid (hb.alloc hb.size (.cells vC 28))
  have hV2 := Lib.hid (Blk.new w2 vC 28)
  have hlt2 := hR.lt
  clear hR hl ht hb
  go_upto_region 2 with (refine wpList_store_new rfl 28 _ _ rfl rfl rfl _ vC _ rfl rfl (by simp [vC, Value.oneCell']) (by kernel_rfl) ?_)
  refine wp_world' (fun wx => Blk wx w.heap.size #[.bool false] 4 ∧ Blk wx w2.heap.size vC 28 ∧ Els wx (some a) 2 (lC.map stV) ∧ Els wx (some b) 10 (tC.map rqV) ∧ Below w.heap.size w wx ∧ w.heap.size < w2.heap.size) ⟨hR2.out, hV2.out, hl2.out, ht2.out, hb2.out, hlt2⟩ ?_
  clear hR2 hl2 ht2 hb2 hV2 hlt2
  generalize w2.heap.size = bV
  rintro w3 ⟨hR3, hV3, hl3, ht3, hb3, hlt3⟩
  have ha3 : a.block < w3.heap.size := by
    have := World.block_lt_of_cell? _ _ (hl3.cells a rfl 0 _ 0 _ rfl rfl)
    rwa [addr_block] at this
  have hbb3 : b.block < w3.heap.size := by
    have := World.block_lt_of_cell? _ _ (ht3.cells b rfl 0 _ 0 _ rfl rfl)
    rwa [addr_block] at this
  have hbV3 := hV3.lt
  replace hR3 := Lib.hid hR3
  replace hV3 := Lib.hid hV3
  replace hl3 := Lib.hid hl3
  replace ht3 := Lib.hid ht3
  replace hb3 := Lib.hid hb3
  refine wp_region_rove (X := Nat × Nat) (0, 0) (fun x => [(22, .agg vC), (23, .agg vC), (4, .pointer (some ⟨x.1, 0, none⟩)), (5, .pointer (some ⟨x.2, 0, none⟩))])
    (fun x d W' => ClV vC w3 x (d 2) (d 3) (d 4) (d 5) W') (by kernel_rfl) (by kernel_rfl) (by kernel_rfl) (by kernel_rfl) (fun x => by kernel_rfl)
    ⟨(Mod.refl _ _).drew, (fun h => by cases h), (fun h => by cases h), (fun h => by cases h)⟩ ?_ ?_
  · intro aF hAF
    have E1 : ∀ x, (aF x).eval (.tmp 1) = .pointer (some ⟨bV, 0, none⟩) := by intro x; rw [hAF]; kernel_rfl
    have T19 : ∀ x, (aF x).tmps[22]? = some (.agg vC) := by intro x; rw [hAF]; kernel_rfl
    have E19 : ∀ x, (aF x).eval (.tmp 22) = .agg vC := by intro x; rw [hAF]; kernel_rfl
    have T20 : ∀ x, (aF x).tmps[23]? = some (.agg vC) := by intro x; rw [hAF]; kernel_rfl
    have E20 : ∀ x, (aF x).eval (.tmp 23) = .agg vC := by intro x; rw [hAF]; kernel_rfl
    have T4 : ∀ x, (aF x).tmps[4]? = some (.pointer (some ⟨x.1, 0, none⟩)) := by intro x; rw [hAF]; kernel_rfl
    have E4 : ∀ x, (aF x).eval (.tmp 4) = .pointer (some ⟨x.1, 0, none⟩) := by intro x; rw [hAF]; kernel_rfl
    have T5 : ∀ x, (aF x).tmps[5]? = some (.pointer (some ⟨x.2, 0, none⟩)) := by intro x; rw [hAF]; kernel_rfl
    have E5 : ∀ x, (aF x).eval (.tmp 5) = .pointer (some ⟨x.2, 0, none⟩) := by intro x; rw [hAF]; kernel_rfl
    replace hAF := Lib.hid hAF
    have hld := fun (wx : World) (h : Mod (fun _ => False) w3 wx) => run_load_row' (P := Try.prog) wx bV 28 vC 28 _ (hV3.out.mod h (fun h => h)) Try.underlying28 rfl (by kernel_rfl)
    refine ⟨?_, ?_, ?_, ?_, ?_, ?_, trivial⟩
    · exact opOk3_quiet _ (by intro x t hd _; cases hd; exact T19 x) (fun _ => rfl) fun x d w' hd hc => sv (run_load1 rfl (E1 x) (hld _ hc.m)) hc
    · exact opOk3_quiet _ (by intro x t hd _; cases hd; exact T20 x) (fun _ => rfl) fun x d w' hd hc => sv (run_load1 rfl (E1 x) (hld _ hc.m)) hc
    · exact opOk3_loud rfl fun x d w' hd hn hc => by
        have n2 : d 2 = false := hn 2 (by kernel_rfl)
        have n4 : d 4 = false := hn 4 (by kernel_rfl)
        rw [n2, n4] at hc
        refine sk_v (run_allocV rfl) ?_
        refine ⟨(w'.heap.size, x.2), (by rw [hAF.out]; exact agree_set 2 (4, .pointer (some ⟨x.1, 0, none⟩)) rfl (by kernel_rfl)), (by intro t hd _; cases hd; exact T4 _), ?_⟩
        have := hc.box0
        show ClV vC w3 _ true (d 3) (d 4) (d 5) _
        rw [n4]
        exact this
    · exact opOk3_loud rfl fun x d w' hd hn hc => by
        have n2 : d 3 = false := hn 3 (by kernel_rfl)
        have n4 : d 5 = false := hn 5 (by kernel_rfl)
        rw [n2, n4] at hc
        refine sk_v (run_allocV rfl) ?_
        refine ⟨(x.1, w'.heap.size), (by rw [hAF.out]; exact agree_set 3 (5, .pointer (some ⟨x.2, 0, none⟩)) rfl (by kernel_rfl)), (by intro t hd _; cases hd; exact T5 _), ?_⟩
        have := hc.box1
        show ClV vC w3 _ (d 2) true (d 4) (d 5) _
        rw [n4]
        exact this
    · exact opOk3_loud rfl fun x d w' hd hn hc => by
        have n2 : d 2 = true := hd 2 (by kernel_rfl)
        have n4 : d 4 = false := hn 4 (by kernel_rfl)
        rw [n2, n4] at hc
        refine sk_s (run_storeP (ty := 28) rfl (E4 x) (E19 x) (run_storeVar_row w' x.1 28 v0 vC 28 (hc.x0 rfl).1 rfl (by simp [vC, Value.oneCell']) (by kernel_rfl))) ⟨x, agree_same _ _, (by intro t hd _; cases hd), ?_⟩
        show ClV vC w3 _ (d 2) (d 3) true (d 5) _
        rw [n2]
        exact hc.put0
    · exact opOk3_loud rfl fun x d w' hd hn hc => by
        have n2 : d 3 = true := hd 3 (by kernel_rfl)
        have n4 : d 5 = false := hn 5 (by kernel_rfl)
        rw [n2, n4] at hc
        refine sk_s (run_storeP (ty := 28) rfl (E5 x) (E20 x) (run_storeVar_row w' x.2 28 v0 vC 28 (hc.x1 rfl).1 rfl (by simp [vC, Value.oneCell']) (by kernel_rfl))) ⟨x, agree_same _ _, (by intro t hd _; cases hd), ?_⟩
        show ClV vC w3 _ (d 2) (d 3) (d 4) true _
        rw [n2]
        exact hc.put1
  · intro x d w4 hd hc
    obtain ⟨g4, g5⟩ := x
    simp only [putAll, List.foldl_cons, List.foldl_nil, Act.put, List.setIfInBounds_toArray, List.set_cons_succ, List.set_cons_zero]
    rw [hd 2 (by decide), hd 3 (by decide), hd 4 (by decide), hd 5 (by decide)] at hc
    have hR4 := hR3.out.mod hc.m (fun h => h)
    have hV4 := hV3.out.mod hc.m (fun h => h)
    have hl4 := hl3.out.mod hc.m (fun _ _ h => h)
    have ht4 := ht3.out.mod hc.m (fun _ _ h => h)
    have hb4 := hb3.out.trans (hc.m.below hb3.out.size (fun _ h => h.elim))
    obtain ⟨hX4, hg4⟩ : Blk w4 g4 vC 28 ∧ w3.heap.size ≤ g4 := hc.x0 rfl
    obtain ⟨hX5, hg5⟩ : Blk w4 g5 vC 28 ∧ w3.heap.size ≤ g5 := hc.x1 rfl
    have hne : g4 ≠ g5 := hc.ne rfl rfl
    have hsz := hc.m.size
    have hlt4 := hX4.lt
    have hlt5 := hX5.lt
    clear hc hd hR3 hV3 hl3 ht3 hb3
    have k4 := hX4.cell (i := 2) rfl
    have f4 := hX4.froz 2
    have hM4 : Mod (fun k => k = g4) w4 (w4.setCell ⟨g4, 2, none⟩ (.int .i64 0)) := (Mod.refl (fun k => k = g4) w4).setCell (p := ⟨g4, 2, none⟩) (fun _ => rfl) (.int .i64 0)
    have P1 := Lib.hid (show WkP w a b bV g4 g5 vB vC (w4.setCell ⟨g4, 2, none⟩ (.int .i64 0)) from
      ⟨hR4.mod hM4 (by omega), hV4.mod hM4 (by omega), hX4.set 2 (.int .i64 0), hX5.mod hM4 (by omega), hl4.mod hM4 (fun p e h => by cases e; omega), ht4.mod hM4 (fun p e h => by cases e; omega), hb4.trans (hM4.below hb4.size (fun k h => by omega))⟩)
    clear hM4 hR4 hV4 hX4 hX5 hl4 ht4 hb4
    go_upto_region 4 with fail
    refine wp_world' (WkP w a b bV g4 g5 vB vC) P1.out ?_
    clear P1 k4 f4
    rintro w5 ⟨hR4, hV4, hX4, hX5, hl4, ht4, hb4⟩
    have k4 := hX5.cell (i := 4) rfl
    have f4 := hX5.froz 4
    have hM4 : Mod (fun k => k = g5) w5 (w5.setCell ⟨g5, 4, none⟩ (.int .i64 19)) := (Mod.refl (fun k => k = g5) w5).setCell (p := ⟨g5, 4, none⟩) (fun _ => rfl) (.int .i64 19)
    have P1 := Lib.hid (show WkP w a b bV g4 g5 vB vL (w5.setCell ⟨g5, 4, none⟩ (.int .i64 19)) from
      ⟨hR4.mod hM4 (by omega), hV4.mod hM4 (by omega), hX4.mod hM4 (by omega), hX5.set 4 (.int .i64 19), hl4.mod hM4 (fun p e h => by cases e; omega), ht4.mod hM4 (fun p e h => by cases e; omega), hb4.trans (hM4.below hb4.size (fun k h => by omega))⟩)
    clear hM4 hR4 hV4 hX4 hX5 hl4 ht4 hb4
    go_upto_region 5 with fail
    refine wp_world' (WkP w a b bV g4 g5 vB vL) P1.out ?_
    clear P1 k4 f4
    rintro w6 ⟨hR6, hV6, hX4, hX5, hl6, ht6, hb6⟩
    have s4 := hX4.lt
    have s5 := hX5.lt
    have m1 : Mod (fun _ => False) w6 (w6.alloc (.cells #[] 47)) := (Mod.refl _ _).alloc _
    have ho1 := Lib.hid (World.ownsRow_made (base := w6.heap.size) (e := 47) (size := 10) w6 #[] 0 (Nat.le_refl _) (by unfold maxLen; omega) rfl)
    have ht1 := Lib.hid (ht6.mod m1 (fun _ _ h => h))
    have hz1 := Lib.hid (show w6.heap.size ≤ (w6.alloc (.cells #[] 47)).heap.size by simp)
    replace hR6 := Lib.hid hR6
    replace hV6 := Lib.hid hV6
    replace hX4 := Lib.hid hX4
    replace hX5 := Lib.hid hX5
    replace hl6 := Lib.hid hl6
    replace ht6 := Lib.hid ht6
    replace hb6 := Lib.hid hb6
    go_upto_region 6 with (first | (refine wpList_bs0 rfl 30 0 rfl _ _ (rsl_rq0 _) ?_) | (refine wpList_appE rq_el rfl _ _ rfl w6.heap.size hz1.out _ 0 [] rfl ho1.out (by omega) (some b) 2 2 (tC.map rqV) rfl ht1.out rfl (by omega) (rq_all _) ?_; intro v7 w7 hO7 hg7; replace hO7 := own_mod hO7 ((Mod.refl (fun _ => False) w7).alloc (.cells (rqV (rqOf [])).toArray 47)) (fun _ _ h => h); have hz7 : w6.heap.size ≤ (w7.alloc (.cells (rqV (rqOf [])).toArray 47)).heap.size := by (have := hg7.size; simp at this ⊢; omega)) | (refine wpList_bsd rfl (rsl_rq (rqOf []) _) rfl (by kernel_rfl) ?_) | (refine wpList_appG rq_el rfl _ _ rfl w6.heap.size hz7 _ _ _ rfl hO7 (by omega) _ 1 1 (rqV (rqOf [])) rfl rfl (by omega) (row_cells (Blk.new _ _ _)) (rq_one _) ?_; intro v8 w8 hO8 hg8))
    have hM8 : Mod (fun _ => False) w6 w8 := ((m1.grown hg7 (fun k hk hlt => by cases hk; exact absurd hlt (Nat.lt_irrefl _))).alloc _).grown hg8 (fun k hk hlt => by have := (own_blk_lt hO7 hk).1; omega)
    obtain ⟨po, mo, co, rfl⟩ := own_isS hO8
    obtain rfl := own_len hO8
    obtain ⟨eo, hlo, hco, hpo⟩ := own_els (R := tO.map rqV) (rqV_len _) hO8 (by decide)
    clear hlo
    have hS8 := Lib.hid (show KnS w a b bV g4 g5 po w8.heap.size w8 from ⟨hR6.out.mod hM8 (fun h => h), hV6.out.mod hM8 (fun h => h), hX4.out.mod hM8 (fun h => h), hX5.out.mod hM8 (fun h => h), hl6.out.mod hM8 (fun _ _ h => h), ht6.out.mod hM8 (fun _ _ h => h), eo,
      hb6.out.trans (hM8.below hb6.out.size (fun _ h => h.elim)), by have := hM8.size; have := hb6.out.size; exact ⟨by omega, by omega, by omega, by omega, by omega, by omega, fun c hc => (hpo c hc).2.1, Nat.le_refl _⟩⟩)
    clear hO8 hg8 hO7 hg7 hz7 hM8 ht1 ho1 hz1 m1 hR6 hV6 hX4 hX5 hl6 ht6 hb6 eo hpo s4 s5
    refine wp_world' (KnS w a b bV g4 g5 po w8.heap.size) hS8.out ?_
    clear hS8
    generalize w8.heap.size = top
    rintro w9 hS9
    go_wp2_with fail
    go_loopw [7, 8, 9] (fun m al i wr => ∃ k : Nat, k ≤ 9 ∧ i = .int .i64 k ∧ wr.ownsRow top 55 2 m (manyL k).length ((manyL k).map stV).flatten ∧ wr.ownsRow top 47 10 al (allL k).length ((allL k).map rqV).flatten ∧ KnS w a b bV g4 g5 po top wr) (fun _ _ i _ => 9 - (intOf i).toNat)
    case atStart => exact ⟨0, Nat.zero_le _, rfl, World.ownsRow_nil _ _ _ _, World.ownsRow_nil _ _ _ _, hS9⟩
    case round =>
      clear hS9
      obtain ⟨k, hk, rfl, hM, hA, hS⟩ := hrel
      by_cases hlt : k < 9
      · have hltI : (k : Int) < 9 := by omega
        have s1 : IntKind.i64.wrap ((k : Int) + 1) = (k : Int) + 1 := IntWalk.i64_in _ (by omega)
        have hkA := Lib.hid (show (allL k).length ≤ 100 by simp [allL]; omega)
        have hkM := Lib.hid (manyL_len k)
        have mA : Mod (fun _ => False) wr (wr.alloc (.cells (rqV rqA).toArray 47)) := (Mod.refl _ _).alloc _
        have hMA := Lib.hid (own_mod hM mA (fun _ _ h => h))
        have hAA := Lib.hid (own_mod hA mA (fun _ _ h => h))
        have hSA := Lib.hid (hS.mod mA (fun _ h => h.elim))
        have hsz := Lib.hid hSA.out.top.2.2.2.2.2.2.2
        have hasc := Lib.hid (allL_succ k)
        clear hM hA hS mA
        go_upto_region 12 with (first | (refine wpList_buildn_v rfl 47 #[(2, .tmp 37), (3, .tmp 38), (4, .const (.int .i64 1))] rfl #[(2, .agg #[.int .i64 0, .int .i64 40]), (3, .agg #[.int .i64 0, .int .i64 40]), (4, .int .i64 1)] (by kernel_rfl) _ (run_bqA _) ?_) | (refine wpList_bsd rfl (rsl_rq rqA _) rfl (by kernel_rfl) ?_) | (refine wpList_appG rq_el rfl _ _ rfl top hsz.out _ _ _ rfl hAA.out (Nat.le_trans hkA.out (by omega)) _ 1 1 (rqV rqA) rfl rfl (by omega) (row_cells (Blk.new _ _ _)) (rq_one _) ?_; intro v13 w13 hO hg))
        have hM2 := hMA.out.kept hg (own_apart hMA.out hAA.out (by decide))
        have hA2 : w13.ownsRow top 47 10 v13 (allL (k + 1)).length ((allL (k + 1)).map rqV).flatten := by
          rw [hasc.out, List.map_append, List.flatten_append, List.length_append]
          simpa using hO
        have hS2 := hSA.out.mod (S := fun j => top ≤ j) ((Mod.refl _ _).grown hg (fun j hj _ => (own_blk_lt hAA.out hj).1)) (fun _ h => h)
        clear hO hg hMA hAA hSA hsz hasc
        by_cases h8 : k < 8
        · have h8I : (k : Int) < 8 := by omega
          have mB : Mod (fun _ => False) w13 (w13.alloc (.cells (stV ((k : Int), 0) ++ stV ((k : Int), 1)).toArray 55)) := (Mod.refl _ _).alloc _
          have hMB := Lib.hid (own_mod hM2 mB (fun _ _ h => h))
          have hAB := Lib.hid (own_mod hA2 mB (fun _ _ h => h))
          have hSB := Lib.hid (hS2.mod mB (fun _ h => h.elim))
          have hsz := Lib.hid hSB.out.top.2.2.2.2.2.2.2
          have hmsc := Lib.hid (manyL_succ k h8)
          clear hM2 hA2 hS2 mB
          go_upto_region 10 with (first | (refine wpList_bsd rfl (rsl_st2 k _) rfl (by kernel_rfl) ?_) | (refine wpList_appG st_el rfl _ _ rfl top hsz.out _ _ _ rfl hMB.out (Nat.le_trans hkM.out (by omega)) _ 2 2 (stV ((k : Int), 0) ++ stV ((k : Int), 1)) rfl rfl (by omega) (row_cells (Blk.new _ _ _)) (by simp [stV, Value.oneCell']) ?_; intro v14 w14 hO hg))
          have hA3 := Lib.hid (hAB.out.kept hg (own_apart hAB.out hMB.out (by decide)))
          have hM3 : Hid (w14.ownsRow top 55 2 v14 (manyL (k + 1)).length ((manyL (k + 1)).map stV).flatten) := Lib.hid (by
            rw [hmsc.out, List.map_append, List.flatten_append, List.length_append]
            simpa using hO)
          have hS3 := Lib.hid (hSB.out.mod (S := fun j => top ≤ j) ((Mod.refl _ _).grown hg (fun j hj _ => (own_blk_lt hMB.out hj).1)) (fun _ h => h))
          clear hO hg hMB hAB hSB hsz hmsc
          go_wp2_with fail
          go_roundw
          case rel =>
            repeat apply Exists.intro
            refine ⟨?_, rfl⟩
            exact ⟨k + 1, by omega, by simp, hM3.out, hA3.out, hS3.out⟩
          case measure => simp [intOf]; omega
        · obtain rfl : k = 8 := by omega
          replace hM2 := Lib.hid hM2
          replace hA2 := Lib.hid hA2
          replace hS2 := Lib.hid hS2
          go_wp2_with fail
          go_roundw
          case rel =>
            repeat apply Exists.intro
            refine ⟨?_, rfl⟩
            exact ⟨9, by omega, by simp, hM2.out, hA2.out, hS2.out⟩
          case measure => simp [intOf]
      · obtain rfl : k = 9 := by omega
        obtain ⟨pm, mm, cm, rfl⟩ := own_isS hM
        obtain rfl := own_len hM
        obtain ⟨em, hlm, hcm, hpm⟩ := own_els (R := (manyL 9).map stV) (stV_len _) (by rw [List.length_map]; exact hM) (by decide)
        obtain ⟨pa, ma, ca, rfl⟩ := own_isS hA
        obtain rfl := own_len hA
        obtain ⟨ea, hla, hca, hpa⟩ := own_els (R := (allL 9).map rqV) (rqV_len _) (by rw [List.length_map]; exact hA) (by decide)
        have hT := Lib.hid (show KnT w a b bV g4 g5 po top pm pa wr.heap.size wr from ⟨hS, em, ea, hS.top.2.2.2.2.2.2.2, Nat.le_refl _, fun c hc => (hpm c hc).2.1, fun c hc => (hpa c hc).2.1⟩)
        replace hcm : 16 ≤ cm := hcm
        clear hM hA hS em ea hpm hpa hlm hla
        rw [show (manyL 9).length = 16 from rfl, show (allL 9).length = 9 from rfl]
        generalize wr.heap.size = top2 at *
        go_wp2_with fail
        refine (places11_calls _ _).mono ?_
        rintro e w8 ⟨rfl, rfl⟩
        go_wp2_with (refine wpList_v rfl (.bool false) (run_nilF rfl rfl rfl) ?_)
        refine (places11_calls _ _).mono ?_
        rintro e w9 ⟨rfl, rfl⟩
        have hW9 := hT.out.mod (((Mod.refl (fun _ => False) wr).alloc (.cells #[.int .i64 16] 3)).alloc (.cells #[.int .i64 17] 3)) (fun _ h => h.elim)
        clear hT
        go_upto_region 16 with (refine wpList_v rfl (.bool false) (run_nilF rfl rfl rfl) ?_)
        refine wp_world' (KnT w a b bV g4 g5 po top pm pa top2) hW9 ?_
        clear hW9
        rintro w8 hW
        go_upto_region 17 with fail
        have hb8 := hW.s.low.size
        have hK := Lib.hid (show KnT w a b bV g4 g5 po top pm pa top2 (w8.alloc (.cells #[.int .i64 0] 3)) ∧ Blk (w8.alloc (.cells #[.int .i64 0] 3)) w8.heap.size #[.int .i64 0] 3 ∧ (w8.alloc (.cells #[.int .i64 0] 3)).heap.size = w8.heap.size + 1 ∧ top2 ≤ w8.heap.size ∧ w.heap.size ≤ w8.heap.size from
          ⟨hW.mod ((Mod.refl (fun _ => False) w8).alloc _) (fun _ h => h.elim), Blk.new _ _ _, by simp, hW.le.2.1, hb8⟩)
        clear hW hb8
        refine wp_world' (fun wx => KnT w a b bV g4 g5 po top pm pa top2 wx ∧ Blk wx w8.heap.size #[.int .i64 0] 3 ∧ wx.heap.size = w8.heap.size + 1 ∧ top2 ≤ w8.heap.size ∧ w.heap.size ≤ w8.heap.size) hK.out ?_
        clear hK
        generalize w8.heap.size = g7
        rintro w9 ⟨hW, h7, hz9, ht7, hw7⟩
        have hz9' := Lib.hid hz9
        clear hz9
        go_wp2_with fail
        refine (places11_calls _ _).mono ?_
        rintro e w10 ⟨rfl, rfl⟩
        go_wp2_with fail
        obtain ⟨W0, hW0⟩ : ∃ W0, w9.alloc (.cells #[.int .i64 16] 3) = W0 := ⟨_, rfl⟩
        have hz : W0.heap.size = g7 + 2 := by rw [← hW0]; simp; have := hz9'.out; omega
        have hWA : KnT w a b bV g4 g5 po top pm pa top2 W0 := by rw [← hW0]; exact hW.mod ((Mod.refl (fun _ => False) w9).alloc _) (fun _ h => h.elim)
        have h7A : Blk W0 g7 #[.int .i64 0] 3 := by rw [← hW0]; exact h7.alloc _
        have k1 : W0.cell? ⟨g7 + 1, 0, none⟩ = some (.int .i64 16) := by rw [← hW0, ← hz9'.out]; exact (cellN w9 _ _).1
        rw [hW0, hz9'.out]
        clear hW0 hW h7 hz9'
        refine (wpIn_wide (n := n)).1 ?_
        refine wp_rangeIter (gf := 35) (lb := #[.pointer (some ⟨g7 + 1, 0, none⟩)]) rfl (enters_of Try.func35 (by kernel_rfl) rfl)
          (encs := fun x : Int × Int => #[.int .i64 x.1, .int .i64 x.2]) (fun _ => rfl) (S := fun _ => False) (Dt := fun k => k < w.heap.size ∨ k = g7 + 1) (xs := prs 16)
          (fun o o' => places11_iter 16 w _ (g7 + 1) ((hWA.s.low.alloc hWA.s.low.size _).alloc (by have := hWA.s.low.size; simp; omega) _) (cellA _ (cellA _ k1)))
          ⟨fun h => h, fun h => h⟩ (by omega)
          (fun pre W => KnT w a b bV g4 g5 po top pm pa top2 W ∧ Blk W g7 #[.int .i64 pre.length] 3)
          (fun _ _ _ => False)
          ?hI ?hIx ?h0 ?hround ?hdone ?hstop
        case h0 => exact ⟨hWA, h7A⟩
        case hI => exact fun pre A B h hm => ⟨h.1.mod hm (fun k hk => by rcases hk with h | h; exact h.elim; omega), h.2.mod hm (fun hk => by rcases hk with h | h; exact h.elim; omega)⟩
        case hIx => exact fun c pre A B h hm => h
        case hstop => exact fun c pre x rest W hx h => h.elim
        case hround =>
          rintro pre ⟨x1, x2⟩ rest W hx hSW hlt ⟨hS, hB⟩
          have hk : pre.length < 153 := by have := congrArg List.length hx; rw [prs16_len] at this; simp at this; omega
          obtain ⟨b1, b2, b3⟩ : 0 ≤ x1 ∧ x1 ≤ x2 ∧ x2 ≤ 16 := by
            have := List.all_eq_true.1 prs16_ok (x1, x2) (by rw [hx]; simp)
            simpa using this
          gi_wp2
          refine ⟨Mod.refl _ _, fun W2 hm => ?_⟩
          replace hS := hS.mod hm (fun k s => by omega)
          replace hB := hB.mod hm (by omega)
          have k7 := hB.cell (i := 0) rfl
          have f7 := hB.froz 0
          have s1 : IntKind.i64.wrap ((pre.length : Int) + 1) = (pre.length : Int) + 1 := IntWalk.i64_in _ (by omega)
          have hs2 := hm.size
          have hSA := Lib.hid (hS.mod ((Mod.refl (fun k => k = g7) W2).setCell (p := ⟨g7, 0, none⟩) (fun _ => rfl) (.int .i64 ((pre.length : Int) + 1))) (fun k h => by have : k = g7 := h; omega))
          have hBA := Lib.hid (hB.set 0 (.int .i64 ((pre.length : Int) + 1)))
          have hMA := Lib.hid ((Mod.refl (fun k => ¬ False ∧ ¬ (k < w.heap.size ∨ k = g7 + 1) ∧ k ≠ W0.heap.size ∧ k ≠ W0.heap.size + 1) W2).setCell (p := ⟨g7, 0, none⟩) (fun _ => ⟨fun h => h, by show ¬ (g7 < _ ∨ g7 = _); omega, by show g7 ≠ _; omega, by show g7 ≠ _; omega⟩) (.int .i64 ((pre.length : Int) + 1)))
          clear hm hS hB hx hSW
          gi_wp2_with fail
          exact ⟨hMA.out.mono (fun k _ h => h), hSA.out, by simpa using hBA.out⟩
        case hdone =>
          rintro W ⟨hS, hB⟩ hD hlt
          replace hB : Blk W g7 #[.int .i64 153] 3 := by rw [prs16_len] at hB; exact hB
          go_wp2_with fail
          refine (places11_calls _ _).mono ?_
          rintro e w10 ⟨rfl, rfl⟩
          go_wp2_with fail
          have hA := (Mod.refl (fun _ => False) W).alloc (.cells #[.int .i64 17] 3)
          have hSA := hS.mod hA (fun _ h => h.elim)
          have hBA := hB.mod hA (fun h => h)
          have hDA : (W.alloc (.cells #[.int .i64 17] 3)).heap[W0.heap.size]? = some (.deferred (some [])) := (hA.block _ (by omega) (fun h => h)).trans hD
          have k2 := (cellN W (.int .i64 17) 3).1
          have hz2 : (W.alloc (.cells #[.int .i64 17] 3)).heap.size = W.heap.size + 1 := by simp
          clear hA hS hB hD k1 hWA h7A
          generalize hW1 : W.alloc (.cells #[.int .i64 17] 3) = W1 at *
          generalize hbI : W.heap.size = bI at *
          clear hW1 hbI
          refine (wpIn_wide (n := n)).1 ?_
          refine wp_rangeIter (gf := 35) (lb := #[.pointer (some ⟨bI, 0, none⟩)]) rfl (enters_of Try.func35 (by kernel_rfl) rfl)
            (encs := fun x : Int × Int => #[.int .i64 x.1, .int .i64 x.2]) (fun _ => rfl) (S := fun _ => False) (Dt := fun k => k < w.heap.size ∨ k = bI) (xs := prs 17)
            (fun o o' => places11_iter 17 w _ bI ((hSA.s.low.alloc hSA.s.low.size _).alloc (by have := hSA.s.low.size; simp; omega) _) (cellA _ (cellA _ k2)))
            ⟨fun h => h, fun h => h⟩ (by have := hSA.s.low.size; omega)
            (fun pre W => KnT w a b bV g4 g5 po top pm pa top2 W ∧ Blk W g7 #[.int .i64 153] 3 ∧ W.heap[W0.heap.size]? = some (.deferred (some [])))
            (fun _ _ _ => False)
            ?hI ?hIx ?h0 ?hround ?hdone ?hstop
          case h0 => exact ⟨hSA, hBA, hDA⟩
          case hI => exact fun pre A B h hm => ⟨h.1.mod hm (fun k hk => by rcases hk with h | h; exact h.elim; omega), h.2.1.mod hm (fun hk => by rcases hk with h | h; exact h.elim; omega), (hm.block _ (Array.getElem?_eq_some_iff.1 h.2.2).1 (fun hk => by rcases hk with h | h; exact h.elim; omega)).trans h.2.2⟩
          case hIx => exact fun c pre A B h hm => h
          case hstop => exact fun c pre x rest W hx h => h.elim
          case hround =>
            intro pre x rest W hx
            rw [prs17] at hx
            simp at hx
          case hdone =>
            rintro W2 ⟨hS, hB, hD1⟩ hD2 hlt2
            rw [hz] at hD1
            rw [hz2] at hD2
            have hK : Hid (KnK w a b bV g4 g5 po top pm pa top2 g7 (g7 + 2) (bI + 1) W2) := Lib.hid ⟨hS, hB, hD1, hD2⟩
            have hwt := Lib.hid hS.s.top.1
            have hle7 := Lib.hid hS.le.1
            clear hS hB hD1 hD2 hSA hBA hDA k2
            go_wp2_with (first | (refine wpList_load_v rfl 28 _ rfl ⟨g5, 0, none⟩ rfl _ hK.out.l5 ?_))
            refine hK.out.e0.mono ?_
            rintro e x ⟨rfl, hb'⟩
            replace hK := Lib.hid (hK.out.mod ((Mod.refl (fun _ => False) _).after hb'))
            clear hb'
            go_upto_region 26 with fail
            have hTS := Lib.hid (show Try.prog.underlying 29 = some (.slice (Try.prog.elem 29)) by kernel_rfl)
            have hSS := Lib.hid (show ∀ w : World, (sizeOf (Try.prog.elem 29)).run Try.prog w = .ok 2 w from fun _ => by kernel_rfl)
            have hz := Lib.hid (fun z : Later (fun _ => False) x => (hK.out.mod z.mod))
            refine wp_region_later (w0 := x) (S := fun _ => False) (Mod.refl _ _) (by kernel_rfl) (by kernel_rfl) ?_
            refine wpQuiet_v (by kernel_rfl) (.agg vC) (by rintro _ ⟨z, rfl⟩; exact run_load_v rfl rfl (hz.out z).lv) ?_
            simp only [Act.put, List.setIfInBounds_toArray, List.set_cons_succ, List.set_cons_zero]
            go_big_quiet_step (fail)
            refine wpQuiet_v (by kernel_rfl) (.slice pm 14 cm) (by rintro _ ⟨z, rfl⟩; exact run_slHD (s := 2) (k := 14) hTS.out (hSS.out _) rfl rfl rfl (by omega)) ?_
            simp only [Act.put, List.setIfInBounds_toArray, List.set_cons_succ, List.set_cons_zero]
            go_big_quiet_step (fail)
            go_big_quiet_step (((go_at_call 16; with_reducible exact Calls.later ((hz.out _).e1 cm ca hcm))))
            go_big_quiet_step (fail)
            go_big_quiet_step (fail)
            go_big_quiet_step (fail)
            go_big_quiet_step (fail)
            go_big_quiet_step (fail)
            refine wpQuiet_nil ?_
            rintro _ ⟨z, rfl⟩
            replace hK := hz.out z
            clear hz
            generalize z.val = x5 at *
            clear z
            replace hK := Lib.hid hK
            have hz := Lib.hid (fun z : Later (fun _ => False) x5 => (hK.out.mod z.mod))
            go_upto_region 27 with fail
            refine wp_region_then (C := fun w' => ∃ z : Later (fun _ => False) x5, w' = z.val) 82 (by kernel_rfl) (by kernel_rfl) ⟨⟨_, (Mod.refl _ _).drew⟩, rfl⟩ ?_
            simp only [List.append_eq, List.cons_append, List.nil_append, List.take_succ_cons, List.take_zero]
            go_big_quiet_step (fail)
            go_big_quiet_step (((go_at_call 12; with_reducible exact Calls.later (hWK.out _))))
            go_big_quiet_step (fail)
            go_big_quiet_step (fail)
            refine wpQuiet_v (by kernel_rfl) (.int .i64 153) (by rintro _ ⟨z, rfl⟩; exact run_load_v rfl rfl (run_i64 ((hz.out z).n.cell (i := 0) rfl))) ?_
            simp only [Act.put, List.setIfInBounds_toArray, List.set_cons_succ, List.set_cons_zero]
            go_big_quiet_step (fail)
            go_big_quiet_step (fail)
            go_big_quiet_step (fail)
            go_big_quiet_step (fail)
            go_big_quiet_step (fail)
            go_big_quiet_step (fail)
            go_big_quiet_step (fail)
            go_big_quiet_step (fail)
            go_big_quiet_step (fail)
            go_big_quiet_step (fail)
            go_big_quiet_step (fail)
            go_big_quiet_step (fail)
            go_big_quiet_step (fail)
            go_big_quiet_step (fail)
            go_big_quiet_step (fail)
            go_big_quiet_step (fail)
            go_big_quiet_step (fail)
            go_big_quiet_step (fail)
            go_big_quiet_step (fail)
            refine wpQuiet_v (by kernel_rfl) (.agg vB) (by rintro _ ⟨z, rfl⟩; exact run_load_v rfl rfl (hz.out z).l4) ?_
            simp only [Act.put, List.setIfInBounds_toArray, List.set_cons_succ, List.set_cons_zero]
            go_big_quiet_step (fail)
            go_big_quiet_step (fail)
            go_big_quiet_step (fail)
            go_big_quiet_step (((go_at_call 19; with_reducible exact Calls.later ((hz.out _).k0))))
            go_big_quiet_step (fail)
            go_big_quiet_step (fail)
            refine wpQuiet_v (by kernel_rfl) (.agg vB) (by rintro _ ⟨z, rfl⟩; exact run_load_v rfl rfl (hz.out z).l4) ?_
            simp only [Act.put, List.setIfInBounds_toArray, List.set_cons_succ, List.set_cons_zero]
            go_big_quiet_step (fail)
            go_big_quiet_step (fail)
            go_big_quiet_step (fail)
            go_big_quiet_step (((go_at_call 19; with_reducible exact Calls.later ((hz.out _).k1))))
            go_big_quiet_step (fail)
            go_big_quiet_step (fail)
            refine wpQuiet_v (by kernel_rfl) (.agg vC) (by rintro _ ⟨z, rfl⟩; exact run_load_v rfl rfl (hz.out z).lv) ?_
            simp only [Act.put, List.setIfInBounds_toArray, List.set_cons_succ, List.set_cons_zero]
            go_big_quiet_step (fail)
            go_big_quiet_step (fail)
            go_big_quiet_step (fail)
            go_big_quiet_step (((go_at_call 19; with_reducible exact Calls.later ((hz.out _).k2 co))))
            go_big_quiet_step (fail)
            go_big_quiet_step (fail)
            refine wpQuiet_v (by kernel_rfl) (.agg vC) (by rintro _ ⟨z, rfl⟩; exact run_load_v rfl rfl (hz.out z).lv) ?_
            simp only [Act.put, List.setIfInBounds_toArray, List.set_cons_succ, List.set_cons_zero]
            go_big_quiet_step (fail)
            refine wpQuiet_v (by kernel_rfl) (.slice (some a) 1 2) (by rintro _ ⟨z, rfl⟩; exact run_slHD (s := 2) (k := 1) hTS.out (hSS.out _) rfl rfl rfl (by omega)) ?_
            simp only [Act.put, List.setIfInBounds_toArray, List.set_cons_succ, List.set_cons_zero]
            go_big_quiet_step (fail)
            go_big_quiet_step (fail)
            go_big_quiet_step (((go_at_call 19; with_reducible exact Calls.later ((hz.out _).k3))))
            go_big_quiet_step (fail)
            go_big_quiet_step (fail)
            refine wpQuiet_v (by kernel_rfl) (.agg vL) (by rintro _ ⟨z, rfl⟩; exact run_load_v rfl rfl (hz.out z).l5) ?_
            simp only [Act.put, List.setIfInBounds_toArray, List.set_cons_succ, List.set_cons_zero]
            go_big_quiet_step (fail)
            go_big_quiet_step (fail)
            go_big_quiet_step (fail)
            go_big_quiet_step (((go_at_call 19; with_reducible exact Calls.later ((hz.out _).k4))))
            go_big_quiet_step (fail)
            go_big_quiet_step (fail)
            refine wpQuiet_v (by kernel_rfl) (.agg vC) (by rintro _ ⟨z, rfl⟩; exact run_load_v rfl rfl (hz.out z).lv) ?_
            simp only [Act.put, List.setIfInBounds_toArray, List.set_cons_succ, List.set_cons_zero]
            go_big_quiet_step (fail)
            go_big_quiet_step (fail)
            go_big_quiet_step (fail)
            go_big_quiet_step (((go_at_call 19; with_reducible exact Calls.later ((hz.out _).k5 cm ca hcm))))
            go_big_quiet_step (fail)
            go_big_quiet_step (fail)
            refine wpQuiet_v (by kernel_rfl) (.agg vC) (by rintro _ ⟨z, rfl⟩; exact run_load_v rfl rfl (hz.out z).lv) ?_
            simp only [Act.put, List.setIfInBounds_toArray, List.set_cons_succ, List.set_cons_zero]
            go_big_quiet_step (fail)
            refine wpQuiet_v (by kernel_rfl) (.slice pm 14 cm) (by rintro _ ⟨z, rfl⟩; exact run_slHD (s := 2) (k := 14) hTS.out (hSS.out _) rfl rfl rfl (by omega)) ?_
            simp only [Act.put, List.setIfInBounds_toArray, List.set_cons_succ, List.set_cons_zero]
            go_big_quiet_step (fail)
            go_big_quiet_step (fail)
            go_big_quiet_step (((go_at_call 20; with_reducible exact Calls.later ((hz.out _).k6 cm ca hcm))))
            go_big_quiet_step (fail)
            go_big_quiet_step (fail)
            refine wpQuiet_v (by kernel_rfl) (.agg vC) (by rintro _ ⟨z, rfl⟩; exact run_load_v rfl rfl (hz.out z).lv) ?_
            simp only [Act.put, List.setIfInBounds_toArray, List.set_cons_succ, List.set_cons_zero]
            go_big_quiet_step (fail)
            refine wpQuiet_v (by kernel_rfl) (.slice pm 14 cm) (by rintro _ ⟨z, rfl⟩; exact run_slHD (s := 2) (k := 14) hTS.out (hSS.out _) rfl rfl rfl (by omega)) ?_
            simp only [Act.put, List.setIfInBounds_toArray, List.set_cons_succ, List.set_cons_zero]
            go_big_quiet_step (fail)
            go_big_quiet_step (fail)
            go_big_quiet_step (((go_at_call 19; with_reducible exact Calls.later ((hz.out _).k7 cm ca hcm))))
            go_big_quiet_step (fail)
            refine wpQuiet_nil ?_
            rintro _ ⟨z, rfl⟩
            replace hK := Lib.hid (hz.out z)
            clear hz
            generalize z.val = x6 at *
            clear z
            have kR := hK.out.t.s.r.cell (i := 0) rfl
            have fR := hK.out.t.s.r.froz 0
            have hRR := Lib.hid ((hK.out.t.s.r.set 0 (.bool true)).cell (i := 0) (v := .bool true) rfl)
            have hbb := Lib.hid (hK.out.t.s.low.setCell (p := ⟨w.heap.size, 0, none⟩) (Nat.le_refl _) (.bool true))
            have hg7 : w.heap.size < g7 := by have := hwt.out; have := hle7.out; omega
            have hgI : w.heap.size < bI := by omega
            have hD1 := Lib.hid (setCell_heap (p := ⟨w.heap.size, 0, none⟩) (v := .bool true) hK.out.d1 (show g7 + 2 ≠ w.heap.size by omega))
            have hD2 := Lib.hid (setCell_heap (p := ⟨w.heap.size, 0, none⟩) (v := .bool true) hK.out.d2 (show bI + 1 ≠ w.heap.size by omega))
            have hne : g7 + 2 ≠ bI + 1 := by omega
            clear hK
            refine wpAny_ready (rs := [82]) (by kernel_rfl) (by simp) ?_
            refine AllReady.cons rfl (fun K hK => ?_) AllReady.nil
            go_simp
            refine hK _ _ ?_
            clear hK K
            refine wpAny_done (by kernel_rfl) ?_ _
            go_wp2_with fail
            refine ⟨by simp, .inl ⟨_, _, rfl, run_takeDeferred hD2.out, ?_⟩⟩
            refine ⟨by simp, .inl ⟨_, _, rfl, run_takeDeferred ((World.putObj_heap_other hne).trans hD1.out), ?_⟩⟩
            exact ⟨_, res_cell1 Try.results7 rfl (run_cellB ((putObj_cell (by show w.heap.size ≠ _; omega)).trans ((putObj_cell (by show w.heap.size ≠ _; omega)).trans hRR.out))), rfl, below_putObj (below_putObj hbb.out (by omega) _) (by omega) _⟩
theorem InsertKnown_calls (w : World) : Calls Try.prog 7 #[] w fun e w' => e = .returned (.bool true) ∧ Below w.heap.size w w' := InsertKnown_walk w
end Go.Proofs.Ytcdpiemkbefcoaa
