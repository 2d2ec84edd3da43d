/-
  Layer 6: route.Check.
-/
import Derived.Test.YtcdpiemkbefcoaaEls
import Derived.Deep.CutBlock
import Derived.Deep.DeepCutAuto
import Derived.WalkMore
namespace Go.Proofs.Ytcdpiemkbefcoaa
open Go.RowKit

theorem seen_zero (w : World) : (zeroValue 157).run Try.prog w = .ok (pairV (0, 0)) w := by kernel_rfl
theorem seen_size (a b : Int) : (Try.prog.info? 157).map (·.size) = some (#[Value.int .i64 a, Value.int .i64 b] : Array Value).size := by kernel_rfl
theorem pair_one (a b : Int) : ∀ v ∈ (#[Value.int .i64 a, Value.int .i64 b] : Array Value).toList, v.oneCell' = true := by simp [Value.oneCell']
theorem eql_seen (w : World) (a b c d : Int) : (binOp .eql 157 (.agg #[.int .i64 a, .int .i64 b]) (.agg #[.int .i64 c, .int .i64 d])).run Try.prog w = .ok (.bool (a == c && b == d)) w := by
  go_simp
  repeat' split
  all_goals simp_all
set_option maxHeartbeats 2000000 in
set_option maxRecDepth 100000 in
theorem rcheck_calls (p : Option Addr) (cap : Nat) (l : List (Int × Int)) (w : World) (hE : Els w p 2 (l.map stV)) :
    Calls Try.prog 71 #[.slice p l.length cap] w fun e w' => e = .returned (.int .i64 (chkP l)) ∧ Below w.heap.size w w' := by
  have hX : chkP l = if 16 < l.length then 11 else if (chRun l []).2 then (if unB (chRun l []).1 then 8 else 0) else 8 := rfl
  generalize chkP l = X at hX ⊢
  by_cases h16 : 16 < l.length
  · rw [if_pos h16] at hX
    subst hX
    have hi : (16 : Int) < (l.length : Int) := by omega
    go_enter Try.func71, Try.ntmps71
    go_wp2
    go_step3
    go_wp2
    rw [Exit.noGoto_ret]
    go_ret
    exact ⟨rfl, Below.refl _ _⟩
  · rw [if_neg h16] at hX
    have hi : ¬ (16 : Int) < (l.length : Int) := by omega
    have hmm := @run_makeMap Try.prog
    have HX := Lib.hid hX
    clear hX
    go_enter Try.func71, Try.ntmps71
    go_wp2
    go_step3
    go_wp2
    refine wp_world' (fun wx => MapAt wx w.heap.size [] ∧ Below w.heap.size w wx ∧ w.heap.size < wx.heap.size) ⟨MapAt.new _, new_below _ _, by simp⟩ ?_
    rintro w1 ⟨hM, hb1, hlt⟩
    clear hmm
    replace hE := Lib.hid hE
    go_step3
    go_upto_block 0 with fail
    go_cut [2] (fun s2 wx => ∃ M ok, s2 = .int .i64 (if ok = true then 0 else 8) ∧ chRun l [] = (M, ok) ∧ MapAt wx w.heap.size M ∧ Below w.heap.size w wx)
    case first =>
      go_wp2_with fail
      go_loopw [2, 15] (fun e i wr => ∃ k M, k ≤ l.length ∧ i = .int .i64 k ∧ e = .int .i64 0 ∧ Hid (chRun l [] = chRun (l.drop k) M) ∧ MapAt wr w.heap.size M ∧ Below w.heap.size w wr ∧ w.heap.size < wr.heap.size) (fun _ i _ => l.length - (intOf i).toNat)
      case atStart => exact ⟨0, [], by omega, rfl, rfl, Lib.hid rfl, hM, hb1, hlt⟩
      case round =>
        obtain ⟨k, M, hk, rfl, rfl, hR, hMr, hbr, hlr⟩ := hrel
        have hEr := hE.out.below hbr
        by_cases hkl : k < l.length
        · have hkI : (k : Int) < (l.length : Int) := by omega
          obtain ⟨a, rfl⟩ := hEr.some_of (k := k) (by simpa using hkl)
          have hld := Lib.hid (hEr.load (P := Try.prog) (a := a) rfl (k := k) (by simpa using hkl) (ty := 55) Try.underlying55 rfl (by kernel_rfl))
          rw [List.getElem_map] at hld
          obtain ⟨r, kd, hs⟩ : ∃ r kd, l[k] = (r, kd) := ⟨_, _, rfl⟩
          rw [hs] at hld
          have hT := chRun_step (M := M) hkl
          rw [hs] at hT
          have hH := Lib.hid (hR.out.trans hT)
          obtain ⟨pc, dc, hv⟩ : ∃ pc dc, lookM M r = (pc, dc) := ⟨_, _, rfl⟩
          have hS : chStep M (r, kd) = if r < 0 then none else if kd = 0 ∧ (pc, dc) = ((0 : Int), (0 : Int)) then some (putM M r (1, 0)) else if kd = 1 ∧ (pc, dc) = ((1 : Int), (0 : Int)) then some (putM M r (1, 1)) else none := by
            unfold chStep
            simp only [hv]
          have hlk := fun (wx : World) (h : MapAt wx w.heap.size M) => run_lookup_pairs (P := Try.prog) wx 155 _ _ w.heap.size M r Try.underlying155 Try.underlying3 seen_zero h
          rw [hv] at hlk
          have HS := Lib.hid hS
          have Hlk := Lib.hid hlk
          have HM := Lib.hid hMr
          clear hS hlk hT hR hv hs hMr hEr
          go_upto_region 7 with (first | (refine wpList_load_v rfl 55 _ rfl (a.add (k * 2)) rfl _ hld.out ?_) | (refine wpList_store_new rfl 55 _ _ rfl rfl rfl _ (stV (r, kd)).toArray _ rfl rfl (stV_one _) (by kernel_rfl) ?_))
          refine wp_world' (fun wx => Blk wx wr.heap.size (stV (r, kd)).toArray 55 ∧ MapAt wx w.heap.size M ∧ Below w.heap.size w wx ∧ wx.heap.size = wr.heap.size + 1)
            ⟨Blk.new _ _ _, HM.out.mod ((Mod.refl (fun _ => False) _).alloc _) (fun h => h), hbr.alloc hbr.size _, by simp⟩ ?_
          rintro w2 ⟨hS2, hM2, hb2, hz2⟩
          clear HM hbr hld
          generalize wr.heap.size = g at *
          have hg2 : w.heap.size < w2.heap.size := by omega
          have hgg : g < w2.heap.size := by omega
          replace hz2 := Lib.hid hz2
          have k0 : w2.cell? ⟨g, 0, none⟩ = some (.int .i64 r) := hS2.cell (i := 0) rfl
          have hl2 := Lib.hid (show (Instr.lookup 155 (.map (some w.heap.size)) (.int .i64 r) false).run Try.prog w2 = .ok (.agg #[.int .i64 pc, .int .i64 dc]) w2 from Hlk.out w2 hM2)
          go_upto_region 8 with (first | (refine wpList_v rfl _ (exec_lookup rfl rfl rfl hl2.out) ?_) | (refine wpList_store_new rfl 157 _ _ rfl rfl rfl _ #[.int .i64 pc, .int .i64 dc] _ rfl rfl (pair_one _ _) (seen_size _ _) ?_))
          refine wp_world' (fun wx => Blk wx g (stV (r, kd)).toArray 55 ∧ Blk wx w2.heap.size #[.int .i64 pc, .int .i64 dc] 157 ∧ MapAt wx w.heap.size M ∧ Below w.heap.size w wx)
            ⟨hS2.alloc _, Blk.new _ _ _, hM2.mod ((Mod.refl (fun _ => False) _).alloc _) (fun h => h), hb2.alloc hb2.size _⟩ ?_
          rintro w3 ⟨hS3, hP3, hM3, hb3⟩
          clear hS2 hM2 hb2 k0 hl2 Hlk
          generalize w2.heap.size = g2 at *
          have k0 : w3.cell? ⟨g, 0, none⟩ = some (.int .i64 r) := hS3.cell (i := 0) rfl
          have k1 : w3.cell? ⟨g, 1, none⟩ = some (.int .i64 kd) := hS3.cell (i := 1) rfl
          have j0 : w3.cell? ⟨g2, 0, none⟩ = some (.int .i64 pc) := hP3.cell (i := 0) rfl
          have j1 : w3.cell? ⟨g2, 1, none⟩ = some (.int .i64 dc) := hP3.cell (i := 1) rfl
          by_cases c0 : r < 0
          · have hno : chRun l [] = (M, false) := by rw [hH.out, HS.out, if_pos c0]
            replace hno := Lib.hid hno
            go_wp2_with fail
            go_meet
            case rel => exact ⟨M, false, rfl, hno.out, hM3, hb3⟩
          · by_cases q0 : kd = 0
            · subst q0
              by_cases z : pc = 0 ∧ dc = 0
              · obtain ⟨rfl, rfl⟩ := z
                have hyes : Hid (chRun l [] = chRun (l.drop (k + 1)) (putM M r (1, 0))) := Lib.hid (by rw [hH.out, HS.out, if_neg c0, if_pos ⟨rfl, rfl⟩])
                have fz := hP3.froz 0
                have HS3 := Lib.hid hS3
                have HP3 := Lib.hid hP3
                have HM3 := Lib.hid hM3
                clear HS hH hS3 hP3 hM3
                go_upto_region 14 with fail
                refine wp_world' (fun wx => Blk wx g (stV (r, 0)).toArray 55 ∧ Blk wx g2 #[.int .i64 1, .int .i64 0] 157 ∧ MapAt wx w.heap.size M ∧ Below w.heap.size w wx)
                  ⟨HS3.out.other (by show g ≠ g2; omega) _, HP3.out.set 0 _, HM3.out.mod ((Mod.refl (· = g2) _).setCell (fun _ => rfl) _) (by show ¬ w.heap.size = g2; omega), hb3.setCell (by show w.heap.size ≤ g2; omega) _⟩ ?_
                rintro w4 ⟨hS4, hP4, hM4, hb4⟩
                clear k0 k1 j0 j1 fz HS3 HP3 HM3 hb3
                have k0 : w4.cell? ⟨g, 0, none⟩ = some (.int .i64 r) := hS4.cell (i := 0) rfl
                have j0 : w4.cell? ⟨g2, 0, none⟩ = some (.int .i64 1) := hP4.cell (i := 0) rfl
                have j1 : w4.cell? ⟨g2, 1, none⟩ = some (.int .i64 0) := hP4.cell (i := 1) rfl
                obtain ⟨w5, hrun, hM5, hm5⟩ := hM4.update (P := Try.prog) 155 _ _ r (1, 0) Try.underlying155 Try.underlying3
                have Hrun := Lib.hid (show (Instr.mapUpdate 155 (.map (some w.heap.size)) (.int .i64 r) (.agg #[.int .i64 1, .int .i64 0])).run Try.prog w4 = .ok () w5 from hrun)
                have hb5 := hb4.trans (hm5.below hb4.size (fun x hx => Nat.le_of_eq hx.symm))
                have hs5 : w.heap.size < w5.heap.size := hM5.lt
                clear hrun hm5 hS4 hP4 hM4 hb4
                go_wp2_with (refine wpList_sw rfl rfl (exec_update rfl rfl rfl rfl Hrun.out) ?_)
                go_roundw
                case rel => exact ⟨k + 1, _, by omega, by simp, rfl, hyes, hM5, hb5, hs5⟩
                case measure => simp [intOf]; omega
              · have hno : chRun l [] = (M, false) := by
                  rw [hH.out, HS.out, if_neg c0, if_neg (fun h => z (by have := h.2; simpa using this)), if_neg (fun h => absurd h.1 (by decide))]
                replace hno := Lib.hid hno
                clear HS hH
                have zz : pc = 0 → ¬ dc = 0 := fun h1 h2 => z ⟨h1, h2⟩
                go_wp2_with fail
                all_goals (go_meet)
                all_goals (exact ⟨M, false, rfl, hno.out, hM3, hb3⟩)
            · by_cases q1 : kd = 1
              · subst q1
                by_cases z : pc = 1 ∧ dc = 0
                · obtain ⟨rfl, rfl⟩ := z
                  have hyes : Hid (chRun l [] = chRun (l.drop (k + 1)) (putM M r (1, 1))) := Lib.hid (by rw [hH.out, HS.out, if_neg c0, if_neg (fun h => absurd h.1 (by decide)), if_pos ⟨rfl, rfl⟩])
                  have fz := hP3.froz 1
                  have HS3 := Lib.hid hS3
                  have HP3 := Lib.hid hP3
                  have HM3 := Lib.hid hM3
                  clear HS hH hS3 hP3 hM3
                  go_upto_region 14 with fail
                  refine wp_world' (fun wx => Blk wx g (stV (r, 1)).toArray 55 ∧ Blk wx g2 #[.int .i64 1, .int .i64 1] 157 ∧ MapAt wx w.heap.size M ∧ Below w.heap.size w wx)
                    ⟨HS3.out.other (by show g ≠ g2; omega) _, HP3.out.set 1 _, HM3.out.mod ((Mod.refl (· = g2) _).setCell (fun _ => rfl) _) (by show ¬ w.heap.size = g2; omega), hb3.setCell (by show w.heap.size ≤ g2; omega) _⟩ ?_
                  rintro w4 ⟨hS4, hP4, hM4, hb4⟩
                  clear k0 k1 j0 j1 fz HS3 HP3 HM3 hb3
                  have k0 : w4.cell? ⟨g, 0, none⟩ = some (.int .i64 r) := hS4.cell (i := 0) rfl
                  have j0 : w4.cell? ⟨g2, 0, none⟩ = some (.int .i64 1) := hP4.cell (i := 0) rfl
                  have j1 : w4.cell? ⟨g2, 1, none⟩ = some (.int .i64 1) := hP4.cell (i := 1) rfl
                  obtain ⟨w5, hrun, hM5, hm5⟩ := hM4.update (P := Try.prog) 155 _ _ r (1, 1) Try.underlying155 Try.underlying3
                  have Hrun := Lib.hid (show (Instr.mapUpdate 155 (.map (some w.heap.size)) (.int .i64 r) (.agg #[.int .i64 1, .int .i64 1])).run Try.prog w4 = .ok () w5 from hrun)
                  have hb5 := hb4.trans (hm5.below hb4.size (fun x hx => Nat.le_of_eq hx.symm))
                  have hs5 : w.heap.size < w5.heap.size := hM5.lt
                  clear hrun hm5 hS4 hP4 hM4 hb4
                  go_wp2_with (refine wpList_sw rfl rfl (exec_update rfl rfl rfl rfl Hrun.out) ?_)
                  go_roundw
                  case rel => exact ⟨k + 1, _, by omega, by simp, rfl, hyes, hM5, hb5, hs5⟩
                  case measure => simp [intOf]; omega
                · have hno : chRun l [] = (M, false) := by
                    rw [hH.out, HS.out, if_neg c0, if_neg (fun h => absurd h.1 (by decide)), if_neg (fun h => z (by have := h.2; simpa using this))]
                  replace hno := Lib.hid hno
                  clear HS hH
                  have zz : pc = 1 → ¬ dc = 0 := fun h1 h2 => z ⟨h1, h2⟩
                  go_wp2_with fail
                  all_goals (go_meet)
                  all_goals (exact ⟨M, false, rfl, hno.out, hM3, hb3⟩)
              · have hno : chRun l [] = (M, false) := by
                  rw [hH.out, HS.out, if_neg c0, if_neg (fun h => q0 h.1), if_neg (fun h => q1 h.1)]
                replace hno := Lib.hid hno
                clear HS hH
                go_wp2_with fail
                all_goals (go_meet)
                all_goals (exact ⟨M, false, rfl, hno.out, hM3, hb3⟩)
        · obtain rfl : k = l.length := by omega
          have hend : chRun l [] = (M, true) := by rw [hR.out, List.drop_length]; rfl
          replace hend := Lib.hid hend
          clear hR
          go_wp2_with fail
          go_meet
          case rel => exact ⟨M, true, rfl, hend.out, hMr, hbr⟩
    case rest =>
      obtain ⟨M, ok, rfl, hT, hMc, hbc⟩ := hcut
      have hX2 : X = if (if ok = true then (0 : Int) else 8) = 8 ∨ unB M = true then 8 else (if ok = true then (0 : Int) else 8) := by
        rw [HX.out, hT]
        cases ok <;> simp
      replace hX2 := Lib.hid hX2
      clear HX hT
      generalize (if ok = true then (0 : Int) else 8) = e0 at hX2 ⊢
      have Hrg := Lib.hid (run_range_map (P := Try.prog) hMc 155 _ _ Try.underlying155)
      have HMc := Lib.hid hMc
      have hml := hMc.lt
      clear hMc hE hM hb1 hlt hi h16
      go_upto_block 3 with (refine wpList_vw rfl _ (exec_range rfl rfl Hrg.out) ?_)
      refine wp_world' (fun wx => MapAt wx w.heap.size M ∧ IterAt wx wc.heap.size w.heap.size M.length #[] ∧ Below w.heap.size w wx ∧ wc.heap.size < wx.heap.size)
        ⟨HMc.out.mod ((Mod.refl (fun _ => False) _).alloc _) (fun h => h), ⟨_, Nat.le_refl _, World.alloc_heap_new _ _⟩, hbc.alloc hbc.size _, by simp⟩ ?_
      rintro w2 ⟨hM2, hI2, hb2, hz2⟩
      clear Hrg HMc hbc
      generalize wc.heap.size = it at *
      simp only [Act.put, List.setIfInBounds_toArray, List.set_cons_succ, List.set_cons_zero]
      go_wp2_with fail
      go_loopw [2] (fun e wr => ∃ (S : Array Nat) (ev : Int), e = .int .i64 ev ∧ MapAt wr w.heap.size M ∧ IterAt wr it w.heap.size M.length S ∧ Below w.heap.size w wr ∧ it < wr.heap.size ∧ Hid ((ev = 8 → e0 = 8 ∨ unB M = true) ∧ (ev = 8 ∨ ev = e0) ∧ (e0 = 8 → ev = 8) ∧ ∀ j ∈ S, ∀ x, M[j]? = some x → x.2.1 ≠ x.2.2 → ev = 8))
        (fun _ wr => ((List.range M.length).filter fun j => !(wr.iterSeen it).contains j).length)
      case atStart => exact ⟨#[], e0, rfl, hM2, hI2, hb2, hz2, Lib.hid ⟨fun h => .inl h, .inr rfl, fun h => h, fun j hj => by simp at hj⟩⟩
      case round =>
        obtain ⟨S, ev, rfl, hMr, hIr, hbr, hzr, hP⟩ := hrel
        rcases next_map (P := Try.prog) hMr hIr 0 hzr (by omega) with ⟨hall, hrun⟩ | ⟨j, x, w', hx, hj, hrun, hM', hI', hm', hent⟩
        · have hev : Hid (ev = X) := Lib.hid (by
            obtain ⟨p1, p2, p3, p4⟩ := hP.out
            rw [hX2.out]
            by_cases hu : unB M = true
            · rw [if_pos (.inr hu)]
              unfold unB at hu
              rw [List.any_eq_true] at hu
              obtain ⟨y, hy, hne⟩ := hu
              obtain ⟨j, hj, rfl⟩ := List.getElem_of_mem hy
              exact p4 j (hall j hj) _ (List.getElem?_eq_getElem hj) (by simpa using hne)
            · by_cases h8 : e0 = 8
              · rw [if_pos (.inl h8)]; exact p3 h8
              · rw [if_neg (fun h => h.elim h8 hu)]
                rcases p2 with h | h
                · exact absurd (p1 h) (fun h => h.elim h8 hu)
                · exact h)
          have Hrun := Lib.hid hrun
          clear hrun hall hMr hIr
          go_wp2_with (refine wpList_vw rfl _ (exec_next rfl rfl Hrun.out) ?_)
          rw [Exit.noGoto_ret]
          go_ret
          exact ⟨by rw [← hev.out]; rfl, hbr⟩
        · have hsz : ((List.range M.length).filter fun j => !(w'.iterSeen it).contains j).length < ((List.range M.length).filter fun j => !(wr.iterSeen it).contains j).length := by
            obtain ⟨c1, _, e1⟩ := hIr
            obtain ⟨c2, _, e2⟩ := hI'
            have s1 : wr.iterSeen it = S := by unfold World.iterSeen; rw [e1]
            have s2 : w'.iterSeen it = S.push j := by unfold World.iterSeen; rw [e2]
            rw [s1, s2]
            refine filter_lt _ _ (fun y hy => ?_) j (by simpa using hj) (by simp) _ (List.mem_range.2 (List.getElem?_eq_some_iff.1 hx).1)
            simp only [Bool.not_eq_true', Array.contains_push, Bool.or_eq_false_iff] at hy ⊢
            exact hy.1
          replace hsz := Lib.hid hsz
          have Hrun := Lib.hid hrun
          have Hent := Lib.hid (show (Instr.entry (.pointer (some ⟨it, 0, none⟩))).run Try.prog w' = .ok (.tuple #[.int .i64 x.1, .agg #[.int .i64 x.2.1, .int .i64 x.2.2]]) w' from hent)
          have hb' := hbr.trans (hm'.below hbr.size (fun y hy => by omega))
          have hz' := Nat.lt_of_lt_of_le hzr hm'.size
          have HM' := Lib.hid hM'
          have HI' := Lib.hid hI'
          clear hrun hent hMr hIr hM' hI' hm'
          obtain ⟨kx, px, dx⟩ := x
          go_upto_region 19 with (first | (refine wpList_vw rfl _ (exec_next rfl rfl Hrun.out) ?_) | (refine wpList_v rfl _ (exec_entry rfl rfl Hent.out) ?_) | (refine wpList_store_new rfl 157 _ _ rfl rfl rfl _ #[.int .i64 px, .int .i64 dx] _ rfl rfl (pair_one _ _) (seen_size _ _) ?_))
          refine wp_world' (fun wx => Blk wx w'.heap.size #[.int .i64 px, .int .i64 dx] 157 ∧ MapAt wx w.heap.size M ∧ IterAt wx it w.heap.size M.length (S.push j) ∧ Below w.heap.size w wx ∧ it < wx.heap.size ∧ wx.iterSeen it = w'.iterSeen it)
            ⟨Blk.new _ _ _, HM'.out.mod ((Mod.refl (fun _ => False) _).alloc _) (fun h => h), ?_, hb'.alloc hb'.size _, by simp; omega, ?_⟩ ?_
          · obtain ⟨c, h1, h2⟩ := HI'.out
            exact ⟨c, h1, (Below.heap_alloc _ _ it hz').trans h2⟩
          · unfold World.iterSeen
            rw [Below.heap_alloc _ _ it hz']
          rintro w4 ⟨hB4, hM4, hI4, hb4, hz4, hs4⟩
          have j0 : w4.cell? ⟨w'.heap.size, 0, none⟩ = some (.int .i64 px) := hB4.cell (i := 0) rfl
          have j1 : w4.cell? ⟨w'.heap.size, 1, none⟩ = some (.int .i64 dx) := hB4.cell (i := 1) rfl
          have HB4 := Lib.hid hB4
          replace hs4 := Lib.hid hs4
          have hin : ∀ i, i ∈ S.push j → i ∈ S ∨ i = j := fun i hi => by simpa using hi
          by_cases hpd : px = dx
          · have hP' : Hid ((ev = 8 → e0 = 8 ∨ unB M = true) ∧ (ev = 8 ∨ ev = e0) ∧ (e0 = 8 → ev = 8) ∧ ∀ i ∈ S.push j, ∀ x, M[i]? = some x → x.2.1 ≠ x.2.2 → ev = 8) := Lib.hid (by
              obtain ⟨p1, p2, p3, p4⟩ := hP.out
              refine ⟨p1, p2, p3, fun i hi y hy hne => ?_⟩
              rcases hin i hi with h | rfl
              · exact p4 i h y hy hne
              · rw [hx] at hy
                cases hy
                exact absurd hpd hne)
            clear hP hx hin hB4
            subst hpd
            go_wp2_with fail
            go_roundw
            case rel => exact ⟨_, _, rfl, hM4, hI4, hb4, hz4, hP'⟩
            case measure => rw [hs4.out]; exact hsz.out
          · have hP' : Hid (((8 : Int) = 8 → e0 = 8 ∨ unB M = true) ∧ ((8 : Int) = 8 ∨ (8 : Int) = e0) ∧ (e0 = 8 → (8 : Int) = 8) ∧ ∀ i ∈ S.push j, ∀ x, M[i]? = some x → x.2.1 ≠ x.2.2 → (8 : Int) = 8) := Lib.hid
              ⟨fun _ => .inr (by
                unfold unB
                rw [List.any_eq_true]
                exact ⟨_, List.mem_of_getElem? hx, by simpa using hpd⟩), .inl rfl, fun _ => rfl, fun _ _ _ _ _ => rfl⟩
            clear hP hx hin hB4
            go_wp2_with fail
            go_roundw
            case rel => exact ⟨_, _, rfl, hM4, hI4, hb4, hz4, hP'⟩
            case measure => rw [hs4.out]; exact hsz.out
end Go.Proofs.Ytcdpiemkbefcoaa
