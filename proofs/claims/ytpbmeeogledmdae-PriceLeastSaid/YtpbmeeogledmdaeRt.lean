/-
  Layer 6: route.Check.
  The document's layer 6: count, Check.
  The document's layer 6: Check, walked.
  What is a route: the program's way and the document's are one. Plain.
-/
import Derived.Test.YtpbmeeogledmdaeEls
import Derived.Deep.CutBlock
import Derived.Deep.DeepCutAuto
import Derived.WalkMore
import Derived.Deep.CutRange
namespace Go.Proofs.Ytpbmeeogledmdae
open Go.RowKit

theorem seen_zero (w : World) : (zeroValue 156).run Try.prog w = .ok (pairV (0, 0)) w := by kernel_rfl
theorem seen_size (a b : Int) : (Try.prog.info? 156).map (·.size) = some (#[Value.int .i64 a, Value.int .i64 b] : Array Value).size := by kernel_rfl
theorem pair_one (a b : Int) : ∀ v ∈ (#[Value.int .i64 a, Value.int .i64 b] : Array Value).toList, v.oneCell' = true := by simp [Value.oneCell']
theorem eql_seen (w : World) (a b c d : Int) : (binOp .eql 156 (.agg #[.int .i64 a, .int .i64 b]) (.agg #[.int .i64 c, .int .i64 d])).run Try.prog w = .ok (.bool (a == c && b == d)) w := by
  go_simp
  repeat' split
  all_goals simp_all
set_option maxHeartbeats 2000000 in
set_option maxRecDepth 100000 in
theorem rcheck_calls (p : Option Addr) (cap : Nat) (l : List (Int × Int)) (w : World) (hE : Els w p 2 (l.map stV)) :
    Calls Try.prog 46 #[.slice p l.length cap] w fun e w' => e = .returned (.int .i64 (chkP l)) ∧ Below w.heap.size w w' := by
  have hX : chkP l = if 16 < l.length then 11 else if (chRun l []).2 then (if unB (chRun l []).1 then 8 else 0) else 8 := rfl
  generalize chkP l = X at hX ⊢
  by_cases h16 : 16 < l.length
  · rw [if_pos h16] at hX
    subst hX
    have hi : (16 : Int) < (l.length : Int) := by omega
    go_enter Try.func46, Try.ntmps46
    go_wp2
    go_step3
    go_wp2
    rw [Exit.noGoto_ret]
    go_ret
    exact ⟨rfl, Below.refl _ _⟩
  · rw [if_neg h16] at hX
    have hi : ¬ (16 : Int) < (l.length : Int) := by omega
    have hmm := @run_makeMap Try.prog
    have HX := Lib.hid hX
    clear hX
    go_enter Try.func46, Try.ntmps46
    go_wp2
    go_step3
    go_wp2
    refine wp_world' (fun wx => MapAt wx w.heap.size [] ∧ Below w.heap.size w wx ∧ w.heap.size < wx.heap.size) ⟨MapAt.new _, new_below _ _, by simp⟩ ?_
    rintro w1 ⟨hM, hb1, hlt⟩
    clear hmm
    replace hE := Lib.hid hE
    go_step3
    go_upto_block 0 with fail
    go_cut [2] (fun s2 wx => ∃ M ok, s2 = .int .i64 (if ok = true then 0 else 8) ∧ chRun l [] = (M, ok) ∧ MapAt wx w.heap.size M ∧ Below w.heap.size w wx)
    case first =>
      go_wp2_with fail
      go_loopw [2, 15] (fun e i wr => ∃ k M, k ≤ l.length ∧ i = .int .i64 k ∧ e = .int .i64 0 ∧ Hid (chRun l [] = chRun (l.drop k) M) ∧ MapAt wr w.heap.size M ∧ Below w.heap.size w wr ∧ w.heap.size < wr.heap.size) (fun _ i _ => l.length - (intOf i).toNat)
      case atStart => exact ⟨0, [], by omega, rfl, rfl, Lib.hid rfl, hM, hb1, hlt⟩
      case round =>
        obtain ⟨k, M, hk, rfl, rfl, hR, hMr, hbr, hlr⟩ := hrel
        have hEr := hE.out.below hbr
        by_cases hkl : k < l.length
        · have hkI : (k : Int) < (l.length : Int) := by omega
          obtain ⟨a, rfl⟩ := hEr.some_of (k := k) (by simpa using hkl)
          have hld := Lib.hid (hEr.load (P := Try.prog) (a := a) rfl (k := k) (by simpa using hkl) (ty := 81) Try.underlying81 rfl (by kernel_rfl))
          rw [List.getElem_map] at hld
          obtain ⟨r, kd, hs⟩ : ∃ r kd, l[k] = (r, kd) := ⟨_, _, rfl⟩
          rw [hs] at hld
          have hT := chRun_step (M := M) hkl
          rw [hs] at hT
          have hH := Lib.hid (hR.out.trans hT)
          obtain ⟨pc, dc, hv⟩ : ∃ pc dc, lookM M r = (pc, dc) := ⟨_, _, rfl⟩
          have hS : chStep M (r, kd) = if r < 0 then none else if kd = 0 ∧ (pc, dc) = ((0 : Int), (0 : Int)) then some (putM M r (1, 0)) else if kd = 1 ∧ (pc, dc) = ((1 : Int), (0 : Int)) then some (putM M r (1, 1)) else none := by
            unfold chStep
            simp only [hv]
          have hlk := fun (wx : World) (h : MapAt wx w.heap.size M) => run_lookup_pairs (P := Try.prog) wx 154 _ _ w.heap.size M r Try.underlying154 Try.underlying3 seen_zero h
          rw [hv] at hlk
          have HS := Lib.hid hS
          have Hlk := Lib.hid hlk
          have HM := Lib.hid hMr
          clear hS hlk hT hR hv hs hMr hEr
          go_upto_region 7 with (first | (refine wpList_load_v rfl 81 _ rfl (a.add (k * 2)) rfl _ hld.out ?_) | (refine wpList_store_new rfl 81 _ _ rfl rfl rfl _ (stV (r, kd)).toArray _ rfl rfl (stV_one _) (by kernel_rfl) ?_))
          refine wp_world' (fun wx => Blk wx wr.heap.size (stV (r, kd)).toArray 81 ∧ MapAt wx w.heap.size M ∧ Below w.heap.size w wx ∧ wx.heap.size = wr.heap.size + 1)
            ⟨Blk.new _ _ _, HM.out.mod ((Mod.refl (fun _ => False) _).alloc _) (fun h => h), hbr.alloc hbr.size _, by simp⟩ ?_
          rintro w2 ⟨hS2, hM2, hb2, hz2⟩
          clear HM hbr hld
          generalize wr.heap.size = g at *
          have hg2 : w.heap.size < w2.heap.size := by omega
          have hgg : g < w2.heap.size := by omega
          replace hz2 := Lib.hid hz2
          have k0 : w2.cell? ⟨g, 0, none⟩ = some (.int .i64 r) := hS2.cell (i := 0) rfl
          have hl2 := Lib.hid (show (Instr.lookup 154 (.map (some w.heap.size)) (.int .i64 r) false).run Try.prog w2 = .ok (.agg #[.int .i64 pc, .int .i64 dc]) w2 from Hlk.out w2 hM2)
          go_upto_region 8 with (first | (refine wpList_v rfl _ (exec_lookup rfl rfl rfl hl2.out) ?_) | (refine wpList_store_new rfl 156 _ _ rfl rfl rfl _ #[.int .i64 pc, .int .i64 dc] _ rfl rfl (pair_one _ _) (seen_size _ _) ?_))
          refine wp_world' (fun wx => Blk wx g (stV (r, kd)).toArray 81 ∧ Blk wx w2.heap.size #[.int .i64 pc, .int .i64 dc] 156 ∧ MapAt wx w.heap.size M ∧ Below w.heap.size w wx)
            ⟨hS2.alloc _, Blk.new _ _ _, hM2.mod ((Mod.refl (fun _ => False) _).alloc _) (fun h => h), hb2.alloc hb2.size _⟩ ?_
          rintro w3 ⟨hS3, hP3, hM3, hb3⟩
          clear hS2 hM2 hb2 k0 hl2 Hlk
          generalize w2.heap.size = g2 at *
          have k0 : w3.cell? ⟨g, 0, none⟩ = some (.int .i64 r) := hS3.cell (i := 0) rfl
          have k1 : w3.cell? ⟨g, 1, none⟩ = some (.int .i64 kd) := hS3.cell (i := 1) rfl
          have j0 : w3.cell? ⟨g2, 0, none⟩ = some (.int .i64 pc) := hP3.cell (i := 0) rfl
          have j1 : w3.cell? ⟨g2, 1, none⟩ = some (.int .i64 dc) := hP3.cell (i := 1) rfl
          by_cases c0 : r < 0
          · have hno : chRun l [] = (M, false) := by rw [hH.out, HS.out, if_pos c0]
            replace hno := Lib.hid hno
            go_wp2_with fail
            go_meet
            case rel => exact ⟨M, false, rfl, hno.out, hM3, hb3⟩
          · by_cases q0 : kd = 0
            · subst q0
              by_cases z : pc = 0 ∧ dc = 0
              · obtain ⟨rfl, rfl⟩ := z
                have hyes : Hid (chRun l [] = chRun (l.drop (k + 1)) (putM M r (1, 0))) := Lib.hid (by rw [hH.out, HS.out, if_neg c0, if_pos ⟨rfl, rfl⟩])
                have fz := hP3.froz 0
                have HS3 := Lib.hid hS3
                have HP3 := Lib.hid hP3
                have HM3 := Lib.hid hM3
                clear HS hH hS3 hP3 hM3
                go_upto_region 14 with fail
                refine wp_world' (fun wx => Blk wx g (stV (r, 0)).toArray 81 ∧ Blk wx g2 #[.int .i64 1, .int .i64 0] 156 ∧ MapAt wx w.heap.size M ∧ Below w.heap.size w wx)
                  ⟨HS3.out.other (by show g ≠ g2; omega) _, HP3.out.set 0 _, HM3.out.mod ((Mod.refl (· = g2) _).setCell (fun _ => rfl) _) (by show ¬ w.heap.size = g2; omega), hb3.setCell (by show w.heap.size ≤ g2; omega) _⟩ ?_
                rintro w4 ⟨hS4, hP4, hM4, hb4⟩
                clear k0 k1 j0 j1 fz HS3 HP3 HM3 hb3
                have k0 : w4.cell? ⟨g, 0, none⟩ = some (.int .i64 r) := hS4.cell (i := 0) rfl
                have j0 : w4.cell? ⟨g2, 0, none⟩ = some (.int .i64 1) := hP4.cell (i := 0) rfl
                have j1 : w4.cell? ⟨g2, 1, none⟩ = some (.int .i64 0) := hP4.cell (i := 1) rfl
                obtain ⟨w5, hrun, hM5, hm5⟩ := hM4.update (P := Try.prog) 154 _ _ r (1, 0) Try.underlying154 Try.underlying3
                have Hrun := Lib.hid (show (Instr.mapUpdate 154 (.map (some w.heap.size)) (.int .i64 r) (.agg #[.int .i64 1, .int .i64 0])).run Try.prog w4 = .ok () w5 from hrun)
                have hb5 := hb4.trans (hm5.below hb4.size (fun x hx => Nat.le_of_eq hx.symm))
                have hs5 : w.heap.size < w5.heap.size := hM5.lt
                clear hrun hm5 hS4 hP4 hM4 hb4
                go_wp2_with (refine wpList_sw rfl rfl (exec_update rfl rfl rfl rfl Hrun.out) ?_)
                go_roundw
                case rel => exact ⟨k + 1, _, by omega, by simp, rfl, hyes, hM5, hb5, hs5⟩
                case measure => simp [intOf]; omega
              · have hno : chRun l [] = (M, false) := by
                  rw [hH.out, HS.out, if_neg c0, if_neg (fun h => z (by have := h.2; simpa using this)), if_neg (fun h => absurd h.1 (by decide))]
                replace hno := Lib.hid hno
                clear HS hH
                have zz : pc = 0 → ¬ dc = 0 := fun h1 h2 => z ⟨h1, h2⟩
                go_wp2_with fail
                all_goals (go_meet)
                all_goals (exact ⟨M, false, rfl, hno.out, hM3, hb3⟩)
            · by_cases q1 : kd = 1
              · subst q1
                by_cases z : pc = 1 ∧ dc = 0
                · obtain ⟨rfl, rfl⟩ := z
                  have hyes : Hid (chRun l [] = chRun (l.drop (k + 1)) (putM M r (1, 1))) := Lib.hid (by rw [hH.out, HS.out, if_neg c0, if_neg (fun h => absurd h.1 (by decide)), if_pos ⟨rfl, rfl⟩])
                  have fz := hP3.froz 1
                  have HS3 := Lib.hid hS3
                  have HP3 := Lib.hid hP3
                  have HM3 := Lib.hid hM3
                  clear HS hH hS3 hP3 hM3
                  go_upto_region 14 with fail
                  refine wp_world' (fun wx => Blk wx g (stV (r, 1)).toArray 81 ∧ Blk wx g2 #[.int .i64 1, .int .i64 1] 156 ∧ MapAt wx w.heap.size M ∧ Below w.heap.size w wx)
                    ⟨HS3.out.other (by show g ≠ g2; omega) _, HP3.out.set 1 _, HM3.out.mod ((Mod.refl (· = g2) _).setCell (fun _ => rfl) _) (by show ¬ w.heap.size = g2; omega), hb3.setCell (by show w.heap.size ≤ g2; omega) _⟩ ?_
                  rintro w4 ⟨hS4, hP4, hM4, hb4⟩
                  clear k0 k1 j0 j1 fz HS3 HP3 HM3 hb3
                  have k0 : w4.cell? ⟨g, 0, none⟩ = some (.int .i64 r) := hS4.cell (i := 0) rfl
                  have j0 : w4.cell? ⟨g2, 0, none⟩ = some (.int .i64 1) := hP4.cell (i := 0) rfl
                  have j1 : w4.cell? ⟨g2, 1, none⟩ = some (.int .i64 1) := hP4.cell (i := 1) rfl
                  obtain ⟨w5, hrun, hM5, hm5⟩ := hM4.update (P := Try.prog) 154 _ _ r (1, 1) Try.underlying154 Try.underlying3
                  have Hrun := Lib.hid (show (Instr.mapUpdate 154 (.map (some w.heap.size)) (.int .i64 r) (.agg #[.int .i64 1, .int .i64 1])).run Try.prog w4 = .ok () w5 from hrun)
                  have hb5 := hb4.trans (hm5.below hb4.size (fun x hx => Nat.le_of_eq hx.symm))
                  have hs5 : w.heap.size < w5.heap.size := hM5.lt
                  clear hrun hm5 hS4 hP4 hM4 hb4
                  go_wp2_with (refine wpList_sw rfl rfl (exec_update rfl rfl rfl rfl Hrun.out) ?_)
                  go_roundw
                  case rel => exact ⟨k + 1, _, by omega, by simp, rfl, hyes, hM5, hb5, hs5⟩
                  case measure => simp [intOf]; omega
                · have hno : chRun l [] = (M, false) := by
                    rw [hH.out, HS.out, if_neg c0, if_neg (fun h => absurd h.1 (by decide)), if_neg (fun h => z (by have := h.2; simpa using this))]
                  replace hno := Lib.hid hno
                  clear HS hH
                  have zz : pc = 1 → ¬ dc = 0 := fun h1 h2 => z ⟨h1, h2⟩
                  go_wp2_with fail
                  all_goals (go_meet)
                  all_goals (exact ⟨M, false, rfl, hno.out, hM3, hb3⟩)
              · have hno : chRun l [] = (M, false) := by
                  rw [hH.out, HS.out, if_neg c0, if_neg (fun h => q0 h.1), if_neg (fun h => q1 h.1)]
                replace hno := Lib.hid hno
                clear HS hH
                go_wp2_with fail
                all_goals (go_meet)
                all_goals (exact ⟨M, false, rfl, hno.out, hM3, hb3⟩)
        · obtain rfl : k = l.length := by omega
          have hend : chRun l [] = (M, true) := by rw [hR.out, List.drop_length]; rfl
          replace hend := Lib.hid hend
          clear hR
          go_wp2_with fail
          go_meet
          case rel => exact ⟨M, true, rfl, hend.out, hMr, hbr⟩
    case rest =>
      obtain ⟨M, ok, rfl, hT, hMc, hbc⟩ := hcut
      have hX2 : X = if (if ok = true then (0 : Int) else 8) = 8 ∨ unB M = true then 8 else (if ok = true then (0 : Int) else 8) := by
        rw [HX.out, hT]
        cases ok <;> simp
      replace hX2 := Lib.hid hX2
      clear HX hT
      generalize (if ok = true then (0 : Int) else 8) = e0 at hX2 ⊢
      have Hrg := Lib.hid (run_range_map (P := Try.prog) hMc 154 _ _ Try.underlying154)
      have HMc := Lib.hid hMc
      have hml := hMc.lt
      clear hMc hE hM hb1 hlt hi h16
      go_upto_block 3 with (refine wpList_vw rfl _ (exec_range rfl rfl Hrg.out) ?_)
      refine wp_world' (fun wx => MapAt wx w.heap.size M ∧ IterAt wx wc.heap.size w.heap.size M.length #[] ∧ Below w.heap.size w wx ∧ wc.heap.size < wx.heap.size)
        ⟨HMc.out.mod ((Mod.refl (fun _ => False) _).alloc _) (fun h => h), ⟨_, Nat.le_refl _, World.alloc_heap_new _ _⟩, hbc.alloc hbc.size _, by simp⟩ ?_
      rintro w2 ⟨hM2, hI2, hb2, hz2⟩
      clear Hrg HMc hbc
      generalize wc.heap.size = it at *
      simp only [Act.put, List.setIfInBounds_toArray, List.set_cons_succ, List.set_cons_zero]
      go_wp2_with fail
      go_loopw [2] (fun e wr => ∃ (S : Array Nat) (ev : Int), e = .int .i64 ev ∧ MapAt wr w.heap.size M ∧ IterAt wr it w.heap.size M.length S ∧ Below w.heap.size w wr ∧ it < wr.heap.size ∧ Hid ((ev = 8 → e0 = 8 ∨ unB M = true) ∧ (ev = 8 ∨ ev = e0) ∧ (e0 = 8 → ev = 8) ∧ ∀ j ∈ S, ∀ x, M[j]? = some x → x.2.1 ≠ x.2.2 → ev = 8))
        (fun _ wr => ((List.range M.length).filter fun j => !(wr.iterSeen it).contains j).length)
      case atStart => exact ⟨#[], e0, rfl, hM2, hI2, hb2, hz2, Lib.hid ⟨fun h => .inl h, .inr rfl, fun h => h, fun j hj => by simp at hj⟩⟩
      case round =>
        obtain ⟨S, ev, rfl, hMr, hIr, hbr, hzr, hP⟩ := hrel
        rcases next_map (P := Try.prog) hMr hIr 0 hzr (by omega) with ⟨hall, hrun⟩ | ⟨j, x, w', hx, hj, hrun, hM', hI', hm', hent⟩
        · have hev : Hid (ev = X) := Lib.hid (by
            obtain ⟨p1, p2, p3, p4⟩ := hP.out
            rw [hX2.out]
            by_cases hu : unB M = true
            · rw [if_pos (.inr hu)]
              unfold unB at hu
              rw [List.any_eq_true] at hu
              obtain ⟨y, hy, hne⟩ := hu
              obtain ⟨j, hj, rfl⟩ := List.getElem_of_mem hy
              exact p4 j (hall j hj) _ (List.getElem?_eq_getElem hj) (by simpa using hne)
            · by_cases h8 : e0 = 8
              · rw [if_pos (.inl h8)]; exact p3 h8
              · rw [if_neg (fun h => h.elim h8 hu)]
                rcases p2 with h | h
                · exact absurd (p1 h) (fun h => h.elim h8 hu)
                · exact h)
          have Hrun := Lib.hid hrun
          clear hrun hall hMr hIr
          go_wp2_with (refine wpList_vw rfl _ (exec_next rfl rfl Hrun.out) ?_)
          rw [Exit.noGoto_ret]
          go_ret
          exact ⟨by rw [← hev.out]; rfl, hbr⟩
        · have hsz : ((List.range M.length).filter fun j => !(w'.iterSeen it).contains j).length < ((List.range M.length).filter fun j => !(wr.iterSeen it).contains j).length := by
            obtain ⟨c1, _, e1⟩ := hIr
            obtain ⟨c2, _, e2⟩ := hI'
            have s1 : wr.iterSeen it = S := by unfold World.iterSeen; rw [e1]
            have s2 : w'.iterSeen it = S.push j := by unfold World.iterSeen; rw [e2]
            rw [s1, s2]
            refine filter_lt _ _ (fun y hy => ?_) j (by simpa using hj) (by simp) _ (List.mem_range.2 (List.getElem?_eq_some_iff.1 hx).1)
            simp only [Bool.not_eq_true', Array.contains_push, Bool.or_eq_false_iff] at hy ⊢
            exact hy.1
          replace hsz := Lib.hid hsz
          have Hrun := Lib.hid hrun
          have Hent := Lib.hid (show (Instr.entry (.pointer (some ⟨it, 0, none⟩))).run Try.prog w' = .ok (.tuple #[.int .i64 x.1, .agg #[.int .i64 x.2.1, .int .i64 x.2.2]]) w' from hent)
          have hb' := hbr.trans (hm'.below hbr.size (fun y hy => by omega))
          have hz' := Nat.lt_of_lt_of_le hzr hm'.size
          have HM' := Lib.hid hM'
          have HI' := Lib.hid hI'
          clear hrun hent hMr hIr hM' hI' hm'
          obtain ⟨kx, px, dx⟩ := x
          go_upto_region 19 with (first | (refine wpList_vw rfl _ (exec_next rfl rfl Hrun.out) ?_) | (refine wpList_v rfl _ (exec_entry rfl rfl Hent.out) ?_) | (refine wpList_store_new rfl 156 _ _ rfl rfl rfl _ #[.int .i64 px, .int .i64 dx] _ rfl rfl (pair_one _ _) (seen_size _ _) ?_))
          refine wp_world' (fun wx => Blk wx w'.heap.size #[.int .i64 px, .int .i64 dx] 156 ∧ MapAt wx w.heap.size M ∧ IterAt wx it w.heap.size M.length (S.push j) ∧ Below w.heap.size w wx ∧ it < wx.heap.size ∧ wx.iterSeen it = w'.iterSeen it)
            ⟨Blk.new _ _ _, HM'.out.mod ((Mod.refl (fun _ => False) _).alloc _) (fun h => h), ?_, hb'.alloc hb'.size _, by simp; omega, ?_⟩ ?_
          · obtain ⟨c, h1, h2⟩ := HI'.out
            exact ⟨c, h1, (Below.heap_alloc _ _ it hz').trans h2⟩
          · unfold World.iterSeen
            rw [Below.heap_alloc _ _ it hz']
          rintro w4 ⟨hB4, hM4, hI4, hb4, hz4, hs4⟩
          have j0 : w4.cell? ⟨w'.heap.size, 0, none⟩ = some (.int .i64 px) := hB4.cell (i := 0) rfl
          have j1 : w4.cell? ⟨w'.heap.size, 1, none⟩ = some (.int .i64 dx) := hB4.cell (i := 1) rfl
          have HB4 := Lib.hid hB4
          replace hs4 := Lib.hid hs4
          have hin : ∀ i, i ∈ S.push j → i ∈ S ∨ i = j := fun i hi => by simpa using hi
          by_cases hpd : px = dx
          · have hP' : Hid ((ev = 8 → e0 = 8 ∨ unB M = true) ∧ (ev = 8 ∨ ev = e0) ∧ (e0 = 8 → ev = 8) ∧ ∀ i ∈ S.push j, ∀ x, M[i]? = some x → x.2.1 ≠ x.2.2 → ev = 8) := Lib.hid (by
              obtain ⟨p1, p2, p3, p4⟩ := hP.out
              refine ⟨p1, p2, p3, fun i hi y hy hne => ?_⟩
              rcases hin i hi with h | rfl
              · exact p4 i h y hy hne
              · rw [hx] at hy
                cases hy
                exact absurd hpd hne)
            clear hP hx hin hB4
            subst hpd
            go_wp2_with fail
            go_roundw
            case rel => exact ⟨_, _, rfl, hM4, hI4, hb4, hz4, hP'⟩
            case measure => rw [hs4.out]; exact hsz.out
          · have hP' : Hid (((8 : Int) = 8 → e0 = 8 ∨ unB M = true) ∧ ((8 : Int) = 8 ∨ (8 : Int) = e0) ∧ (e0 = 8 → (8 : Int) = 8) ∧ ∀ i ∈ S.push j, ∀ x, M[i]? = some x → x.2.1 ≠ x.2.2 → (8 : Int) = 8) := Lib.hid
              ⟨fun _ => .inr (by
                unfold unB
                rw [List.any_eq_true]
                exact ⟨_, List.mem_of_getElem? hx, by simpa using hpd⟩), .inl rfl, fun _ => rfl, fun _ _ _ _ _ => rfl⟩
            clear hP hx hin hB4
            go_wp2_with fail
            go_roundw
            case rel => exact ⟨_, _, rfl, hM4, hI4, hb4, hz4, hP'⟩
            case measure => rw [hs4.out]; exact hsz.out
end Go.Proofs.Ytpbmeeogledmdae
namespace Go.Proofs.Ytpbmeeogledmdae
open Go.RowKit

theorem eql_stop (w : World) (a b c d : Int) : (binOp .eql 81 (.agg #[.int .i64 a, .int .i64 b]) (.agg #[.int .i64 c, .int .i64 d])).run Try.prog w = .ok (.bool (a == c && b == d)) w := by
  go_simp
  repeat' split
  all_goals simp_all
theorem stop_eq (x : Int × Int) (r q : Int) : (x.1 == r && x.2 == q) = decide (x = (r, q)) := by
  obtain ⟨a, b⟩ := x
  rw [Bool.eq_iff_iff]
  simp
end Go.Proofs.Ytpbmeeogledmdae
namespace Go.Proofs.Ytpbmeeogledmdae
open Go.RowKit

section
variable {ρ : Operand → Value} {o : Oper} {w : World} {x y : Operand}
theorem run_eqc {n k : Int} (ho : o.op = .binOp .eql 3 x (.const (.int .i64 k)) 3) (hx : ρ x = .int .i64 n) (hc : ∀ v, ρ (.const v) = v) : (execOp ρ o).run Try.prog w = .ok (.value (.bool (n == k))) w := by
  unfold execOp
  simp only [ho, hx, hc]
  go_simp
theorem run_nec {n k : Int} (ho : o.op = .binOp .neq 3 x (.const (.int .i64 k)) 3) (hx : ρ x = .int .i64 n) (hc : ∀ v, ρ (.const v) = v) : (execOp ρ o).run Try.prog w = .ok (.value (.bool (n != k))) w := by
  unfold execOp
  simp only [ho, hx, hc]
  go_simp
theorem run_pick2 {v d : Value} (ho : o.op = .pick x y (.const d)) (hx : ρ x = .bool true) (hy : ρ y = v) : (execOp ρ o).run Try.prog w = .ok (.value v) w := by
  unfold execOp
  simp only [ho, hx, hy]
  go_simp
theorem run_slS {a : Addr} {n cap k : Nat} (hk : k ≤ n ∧ n ≤ cap ∧ cap ≤ 9223372036854775807) (ho : o.op = .slice 48 x none (some y) none) (hx : ρ x = .slice (some a) n cap) (hy : ρ y = .int .i64 k) :
    (execOp ρ o).run Try.prog w = .ok (.value (.slice (some a) k cap)) w := by
  have h1 : (k : Int) ≤ (cap : Int) := by omega
  have h2 : (0 : Int) ≤ (k : Int) := by omega
  unfold execOp
  simp only [ho, hx, Option.map_some, hy]
  go_simp
end
theorem wanted_of {ops : Array Oper} {o : Oper} {ts : Array Value} {j : Nat} {b : Bool} {d : Nat} (hg : o.guard = some (j, b)) (hd : dstOf ops j = some d) (hv : ts[d]? = some (.bool b)) : Region.wanted o (yielded ops ts) = true := by
  unfold Region.wanted yielded
  unfold dstOf at hd
  simp only [hg, hd, Option.bind_some, hv, beq_self_eq_true]
/-- may a stop of a row not stand where it is? -/
def badS (l : List (Int × Int)) (k : Nat) (s : Int × Int) : Prop :=
  s.1 < 0 ∨ s.2 < 0 ∨ 2 ≤ s.2 ∨ l.count (s.1, 0) ≠ 1 ∨ l.count (s.1, 1) ≠ 1 ∨ (s.2 = 1 ∧ (l.take k).count (s.1, 0) ≠ 1)
open Classical in
/-- what the document's Check answers -/
noncomputable def chkD (l : List (Int × Int)) : Int := if 16 < l.length then 11 else if ∃ k s, l[k]? = some s ∧ badS l k s then 8 else 0
end Go.Proofs.Ytpbmeeogledmdae
namespace Go.Proofs.Ytpbmeeogledmdae

theorem lookM_put (M : Pairs) (k : Int) (v : Int × Int) (r : Int) : lookM (putM M k v) r = if r = k then v else lookM M r := by
  induction M with
  | nil =>
    unfold putM lookM
    by_cases e : r = k
    · subst e; simp
    · rw [if_neg (fun h => e h.symm), if_neg e]; rfl
  | cons x m ih =>
    unfold putM
    by_cases e : x.1 = k
    · rw [if_pos e]
      unfold lookM
      by_cases h : r = k
      · subst h; simp
      · rw [if_neg (fun h' => h h'.symm), if_neg h, if_neg (fun h' => h (h'.symm.trans e))]
    · rw [if_neg e]
      unfold lookM
      by_cases h : x.1 = r
      · rw [if_pos h, if_pos h, if_neg (fun h' => e (h.trans h'))]
      · rw [if_neg h, if_neg h, ih]
theorem put_mem (M : Pairs) (k : Int) (v : Int × Int) (x : Int) : x ∈ (putM M k v).map (·.1) ↔ x = k ∨ x ∈ M.map (·.1) := by
  induction M with
  | nil => simp [putM]
  | cons y m ih =>
    unfold putM
    by_cases e : y.1 = k
    · rw [if_pos e]
      simp only [List.map_cons, List.mem_cons]
      constructor
      · rintro (h | h)
        · exact .inl h
        · exact .inr (.inr h)
      · rintro (h | h | h)
        · exact .inl h
        · exact .inl (h.trans e)
        · exact .inr h
    · rw [if_neg e]
      simp only [List.map_cons, List.mem_cons, ih]
      constructor
      · rintro (h | h | h)
        · exact .inr (.inl h)
        · exact .inl h
        · exact .inr (.inr h)
      · rintro (h | h | h)
        · exact .inr (.inl h)
        · exact .inl h
        · exact .inr (.inr h)
theorem put_nodup (M : Pairs) (k : Int) (v : Int × Int) (h : (M.map (·.1)).Nodup) : ((putM M k v).map (·.1)).Nodup := by
  induction M with
  | nil => simp [putM]
  | cons y m ih =>
    rw [List.map_cons, List.nodup_cons] at h
    unfold putM
    by_cases e : y.1 = k
    · rw [if_pos e, List.map_cons, List.nodup_cons]
      exact ⟨by rw [← e]; exact h.1, h.2⟩
    · rw [if_neg e, List.map_cons, List.nodup_cons]
      refine ⟨fun hm => ?_, ih h.2⟩
      rcases (put_mem m k v y.1).1 hm with h1 | h1
      · exact e h1
      · exact h.1 h1
theorem look_mem (M : Pairs) (h : (M.map (·.1)).Nodup) (x : Int × Int × Int) (hx : x ∈ M) : lookM M x.1 = x.2 := by
  induction M with
  | nil => cases hx
  | cons y m ih =>
    rw [List.map_cons, List.nodup_cons] at h
    unfold lookM
    rcases List.mem_cons.1 hx with rfl | hm
    · rw [if_pos rfl]
    · rw [if_neg (fun e => h.1 (by rw [e]; exact List.mem_map.2 ⟨x, hm, rfl⟩))]
      exact ih h.2 hm
theorem look_out (M : Pairs) (r : Int) (h : r ∉ M.map (·.1)) : lookM M r = (0, 0) := by
  induction M with
  | nil => rfl
  | cons y m ih =>
    rw [List.map_cons, List.mem_cons] at h
    unfold lookM
    rw [if_neg (fun e => h (.inl e.symm))]
    exact ih (fun hm => h (.inr hm))
theorem unB_iff (M : Pairs) (h : (M.map (·.1)).Nodup) : unB M = false ↔ ∀ r, (lookM M r).1 = (lookM M r).2 := by
  unfold unB
  rw [List.any_eq_false]
  constructor
  · intro ha r
    by_cases hr : r ∈ M.map (·.1)
    · obtain ⟨x, hx, rfl⟩ := List.mem_map.1 hr
      rw [look_mem M h x hx]
      simpa using ha x hx
    · rw [look_out M r hr]
  · intro ha x hx
    have := ha x.1
    rw [look_mem M h x hx] at this
    simpa using this
/-- the map tells what was seen -/
def StM (M : Pairs) (q : List (Int × Int)) : Prop := (M.map (·.1)).Nodup ∧ ∀ r, lookM M r = (((q.count (r, 0) : Nat) : Int), ((q.count (r, 1) : Nat) : Int))
/-- may a stop come behind those? -/
def okAt (q : List (Int × Int)) (s : Int × Int) : Prop :=
  0 ≤ s.1 ∧ ((s.2 = 0 ∧ q.count (s.1, 0) = 0 ∧ q.count (s.1, 1) = 0) ∨ (s.2 = 1 ∧ q.count (s.1, 0) = 1 ∧ q.count (s.1, 1) = 0))
theorem count_snoc (q : List (Int × Int)) (s x : Int × Int) : (q ++ [s]).count x = q.count x + if s = x then 1 else 0 := by
  rw [List.count_append, List.count_singleton]
  simp only [beq_iff_eq]
theorem step_ok {M : Pairs} {q : List (Int × Int)} {s : Int × Int} (hS : StM M q) (h : okAt q s) : ∃ M', chStep M s = some M' ∧ StM M' (q ++ [s]) := by
  obtain ⟨r, k⟩ := s
  obtain ⟨h0, h1⟩ := h
  simp only at h0 h1
  have hl := hS.2 r
  unfold chStep
  simp only
  rw [if_neg (by omega)]
  rcases h1 with ⟨rfl, c0, c1⟩ | ⟨rfl, c0, c1⟩
  · rw [c0, c1] at hl
    rw [if_pos ⟨rfl, hl⟩]
    refine ⟨_, rfl, put_nodup _ _ _ hS.1, fun x => ?_⟩
    rw [lookM_put, count_snoc, count_snoc]
    by_cases e : x = r
    · subst e; simp [c0, c1]
    · rw [if_neg e, hS.2 x, if_neg (fun h => e (by simpa using (congrArg Prod.fst h).symm)), if_neg (fun h => e (by simpa using (congrArg Prod.fst h).symm))]; rfl
  · rw [c0, c1] at hl
    rw [if_neg (fun h => absurd h.1 (by decide)), if_pos ⟨rfl, hl⟩]
    refine ⟨_, rfl, put_nodup _ _ _ hS.1, fun x => ?_⟩
    rw [lookM_put, count_snoc, count_snoc]
    by_cases e : x = r
    · subst e; simp [c0, c1]
    · rw [if_neg e, hS.2 x, if_neg (fun h => e (by simpa using (congrArg Prod.fst h).symm)), if_neg (fun h => e (by simpa using (congrArg Prod.fst h).symm))]; rfl
theorem step_no {M : Pairs} {q : List (Int × Int)} {s : Int × Int} (hS : StM M q) (h : ¬ okAt q s) : chStep M s = none := by
  obtain ⟨r, k⟩ := s
  have hl := hS.2 r
  unfold okAt at h
  simp only at h
  unfold chStep
  simp only
  by_cases c0 : r < 0
  · rw [if_pos c0]
  · rw [if_neg c0, if_neg, if_neg]
    · rintro ⟨rfl, hv⟩
      rw [hl] at hv
      have h1 := congrArg Prod.fst hv
      have h2 := congrArg Prod.snd hv
      simp only at h1 h2
      exact h ⟨by omega, .inr ⟨rfl, by omega, by omega⟩⟩
    · rintro ⟨rfl, hv⟩
      rw [hl] at hv
      have h1 := congrArg Prod.fst hv
      have h2 := congrArg Prod.snd hv
      simp only at h1 h2
      exact h ⟨by omega, .inl ⟨rfl, by omega, by omega⟩⟩
theorem run_ok : ∀ (rest q : List (Int × Int)) (M : Pairs), StM M q → (∀ j s, rest[j]? = some s → okAt (q ++ rest.take j) s) → (chRun rest M).2 = true ∧ StM (chRun rest M).1 (q ++ rest)
  | [], q, M, hS, _ => ⟨rfl, by rw [List.append_nil]; exact hS⟩
  | s :: rest, q, M, hS, h => by
    have h0 := h 0 s rfl
    rw [List.take_zero, List.append_nil] at h0
    obtain ⟨M', h1, h2⟩ := step_ok hS h0
    unfold chRun
    rw [h1]
    have := run_ok rest (q ++ [s]) M' h2 (fun j t ht => by
      have := h (j + 1) t (by simpa using ht)
      simpa using this)
    simpa using this
theorem run_no : ∀ (rest q : List (Int × Int)) (M : Pairs), StM M q → (chRun rest M).2 = true → ∀ j s, rest[j]? = some s → okAt (q ++ rest.take j) s
  | [], q, M, _, _, j, s, hj => by simp at hj
  | t :: rest, q, M, hS, h, j, s, hj => by
    unfold chRun at h
    by_cases ho : okAt q t
    · obtain ⟨M', h1, h2⟩ := step_ok hS ho
      rw [h1] at h
      cases j with
      | zero =>
        simp only [List.getElem?_cons_zero, Option.some.injEq] at hj
        subst hj
        simpa using ho
      | succ j =>
        have := run_no rest (q ++ [t]) M' h2 h j s (by simpa using hj)
        simpa using this
    · rw [step_no hS ho] at h
      cases h
theorem nil_st : StM [] [] := ⟨List.nodup_nil, fun _ => rfl⟩
theorem chkP_zero (l : List (Int × Int)) (h16 : ¬ 16 < l.length) : chkP l = 0 ↔ (∀ j s, l[j]? = some s → okAt (l.take j) s) ∧ ∀ r, l.count (r, 0) = l.count (r, 1) := by
  unfold chkP
  rw [if_neg h16]
  constructor
  · intro h
    by_cases h2 : (chRun l []).2 = true
    · rw [if_pos h2] at h
      have ho := run_no l [] [] nil_st h2
      simp only [List.nil_append] at ho
      refine ⟨ho, fun r => ?_⟩
      have hs := (run_ok l [] [] nil_st (by simpa using ho)).2
      rw [List.nil_append] at hs
      have hu : unB (chRun l []).1 = false := by
        cases hb : unB (chRun l []).1 with
        | false => rfl
        | true => rw [hb] at h; simp at h
      have := (unB_iff _ hs.1).1 hu r
      rw [hs.2 r] at this
      exact Int.ofNat_inj.1 this
    · rw [if_neg h2] at h; cases h
  · rintro ⟨ho, hc⟩
    obtain ⟨h2, hs⟩ := run_ok l [] [] nil_st (by simpa using ho)
    rw [List.nil_append] at hs
    rw [if_pos h2]
    have hu : unB (chRun l []).1 = false := (unB_iff _ hs.1).2 (fun r => by rw [hs.2 r]; simp [hc r])
    rw [hu]
    rfl
theorem chkP_some (l : List (Int × Int)) (h16 : ¬ 16 < l.length) : chkP l = 0 ∨ chkP l = 8 := by
  unfold chkP
  rw [if_neg h16]
  split
  · split
    · exact .inr rfl
    · exact .inl rfl
  · exact .inr rfl
theorem count_take_succ (l : List (Int × Int)) (n : Nat) (h : n < l.length) (x : Int × Int) : (l.take (n + 1)).count x = (l.take n).count x + if l[n] = x then 1 else 0 := by
  rw [List.take_succ_eq_append_getElem h, count_snoc]
theorem count_take_le (l : List (Int × Int)) (m n : Nat) (h : m ≤ n) (x : Int × Int) : (l.take m).count x ≤ (l.take n).count x := by
  rw [show l.take m = (l.take n).take m by rw [List.take_take, Nat.min_eq_left h]]
  exact List.Sublist.count_le x (List.take_sublist m _)
theorem count_at (l : List (Int × Int)) (k : Nat) (s : Int × Int) (h : l[k]? = some s) : (l.take k).count s + 1 ≤ l.count s := by
  obtain ⟨hk, he⟩ := List.getElem?_eq_some_iff.1 h
  have h1 := count_take_succ l k hk s
  rw [if_pos he] at h1
  have h2 := count_take_le l (k + 1) l.length (by omega) s
  rw [List.take_length] at h2
  omega
theorem okAt_iff (l : List (Int × Int)) : ((∀ j s, l[j]? = some s → okAt (l.take j) s) ∧ ∀ r, l.count (r, 0) = l.count (r, 1)) ↔ ∀ k s, l[k]? = some s → ¬ badS l k s := by
  constructor
  · rintro ⟨ho, hc⟩ k s hk hb
    obtain ⟨r, q⟩ := s
    have inv : ∀ n, n ≤ l.length → (l.take n).count (r, 0) ≤ 1 ∧ (l.take n).count (r, 1) ≤ (l.take n).count (r, 0) := by
      intro n
      induction n with
      | zero => intro _; simp
      | succ n ih =>
        intro hn
        have ih := ih (by omega)
        have hn' : n < l.length := by omega
        have hon := ho n l[n] (List.getElem?_eq_getElem hn')
        rw [count_take_succ l n hn', count_take_succ l n hn']
        by_cases e0 : l[n] = (r, 0)
        · rw [e0] at hon
          obtain ⟨_, h | h⟩ := hon
          · have a := h.2.1; have b := h.2.2
            simp only at a b
            rw [if_pos e0, if_neg (by rw [e0]; simp)]
            omega
          · exact absurd h.1 (by simp)
        · by_cases e1 : l[n] = (r, 1)
          · rw [e1] at hon
            obtain ⟨_, h | h⟩ := hon
            · exact absurd h.1 (by simp)
            · have a := h.2.1; have b := h.2.2
              simp only at a b
              rw [if_neg e0, if_pos e1]
              omega
          · rw [if_neg e0, if_neg e1]; omega
    have hall := inv l.length (Nat.le_refl _)
    rw [List.take_length] at hall
    have hok := ho k (r, q) hk
    have hpos := count_at l k (r, q) hk
    have hcr := hc r
    obtain ⟨h0, h1⟩ := hok
    simp only at h0 h1
    unfold badS at hb
    simp only at hb
    rcases h1 with ⟨rfl, a, b⟩ | ⟨rfl, a, b⟩
    · rcases hb with h | h | h | h | h | h
      · omega
      · omega
      · omega
      · omega
      · omega
      · exact absurd h.1 (by decide)
    · rcases hb with h | h | h | h | h | h
      · omega
      · omega
      · omega
      · omega
      · omega
      · exact h.2 a
  · intro hg
    have good : ∀ k s, l[k]? = some s → 0 ≤ s.1 ∧ (s.2 = 0 ∨ s.2 = 1) ∧ l.count (s.1, 0) = 1 ∧ l.count (s.1, 1) = 1 ∧ (s.2 = 1 → (l.take k).count (s.1, 0) = 1) := by
      intro k s hk
      have := hg k s hk
      unfold badS at this
      simp only [not_or, not_and, Decidable.not_not, Int.not_lt, Int.not_le] at this
      obtain ⟨h1, h2, h3, h4, h5, h6⟩ := this
      exact ⟨h1, by omega, h4, h5, h6⟩
    refine ⟨fun k s hk => ?_, fun r => ?_⟩
    · obtain ⟨r, q⟩ := s
      obtain ⟨h1, h2, h3, h4, h5⟩ := good k (r, q) hk
      simp only at h1 h2 h3 h4 h5
      have hpos := count_at l k (r, q) hk
      refine ⟨h1, ?_⟩
      simp only
      rcases h2 with rfl | rfl
      · refine .inl ⟨rfl, by omega, ?_⟩
        rcases Nat.eq_zero_or_pos ((l.take k).count (r, 1)) with h | h
        · exact h
        · exfalso
          have hm : (r, (1 : Int)) ∈ l.take k := List.count_pos_iff.1 h
          obtain ⟨j, hj, he⟩ := List.getElem_of_mem hm
          have hjk : j < k := by rw [List.length_take] at hj; omega
          have hlj : l[j]? = some (r, 1) := by
            have : (l.take k)[j]? = some (r, 1) := by rw [List.getElem?_eq_getElem hj, he]
            rwa [List.getElem?_take_of_lt hjk] at this
          have h6 := (good j (r, 1) hlj).2.2.2.2 rfl
          have h7 := count_take_le l j k (by omega) (r, 0)
          simp only at h6
          omega
      · exact .inr ⟨rfl, h5 rfl, by omega⟩
    · by_cases h0 : (r, (0 : Int)) ∈ l
      · obtain ⟨j, hj, he⟩ := List.getElem_of_mem h0
        have := good j (r, 0) (by rw [List.getElem?_eq_getElem hj, he])
        simp only at this
        omega
      · by_cases h1 : (r, (1 : Int)) ∈ l
        · obtain ⟨j, hj, he⟩ := List.getElem_of_mem h1
          have := good j (r, 1) (by rw [List.getElem?_eq_getElem hj, he])
          simp only at this
          omega
        · rw [List.count_eq_zero_of_not_mem h0, List.count_eq_zero_of_not_mem h1]
theorem chk_one (l : List (Int × Int)) : chkD l = chkP l := by
  by_cases h16 : 16 < l.length
  · unfold chkD chkP
    rw [if_pos h16, if_pos h16]
  · have h1 := chkP_zero l h16
    rw [okAt_iff] at h1
    unfold chkD
    rw [if_neg h16]
    split
    · rename_i h
      rcases chkP_some l h16 with h2 | h2
      · obtain ⟨k, s, hk, hb⟩ := h
        exact absurd hb (h1.1 h2 k s hk)
      · exact h2.symm
    · rename_i h
      exact (h1.2 (fun k s hk hb => h ⟨k, s, hk, hb⟩)).symm
end Go.Proofs.Ytpbmeeogledmdae
