/-
  Taken out of Fs: walks that few claims need.
-/
import Derived.Test.YtpbmeeogledmdaeTr
namespace Go.Proofs.Ytpbmeeogledmdae
open Go.RowKit

set_option maxHeartbeats 1000000 in
set_option maxRecDepth 100000 in
theorem part_calls (q : Rq) (r k : Int) (w : World) :
    Calls Try.prog 56 #[.agg #[.int .i64 r, .int .i64 k], .agg (rqV q).toArray] w fun e w' => e = .returned (.tuple #[.agg #[.int .i64 (if k = 0 then q 0 else q 2), .int .i64 (if k = 0 then q 1 else q 3)], .agg #[.int .i64 (if k = 0 then q 4 else q 6), .int .i64 (if k = 0 then q 5 else q 7)]]) ∧ Below w.heap.size w w' := by
  generalize hx0 : (if k = 0 then q 0 else q 2) = x0
  generalize hx1 : (if k = 0 then q 1 else q 3) = x1
  generalize hx2 : (if k = 0 then q 4 else q 6) = x2
  generalize hx3 : (if k = 0 then q 5 else q 7) = x3
  replace hx0 := Lib.hid hx0
  replace hx1 := Lib.hid hx1
  replace hx2 := Lib.hid hx2
  replace hx3 := Lib.hid hx3
  go_enter Try.func56, Try.ntmps56
  go_upto_region 1 with (first | (refine wpList_store_new rfl 61 _ _ rfl rfl rfl _ (rqV q).toArray _ rfl rfl (rqV_one _) (by kernel_rfl) ?_))
  refine wp_world' (fun wx => Blk wx w.heap.size #[.int .i64 r, .int .i64 k] 81 ∧ Blk wx (w.heap.size + 1) (rqV q).toArray 61 ∧ Blk wx (w.heap.size + 1 + 1) #[.int .i64 0, .int .i64 0] 45 ∧ Blk wx (w.heap.size + 1 + 1 + 1) #[.int .i64 0, .int .i64 0] 59 ∧ Below w.heap.size w wx)
    ⟨(((Blk.new w _ _).alloc _).alloc _).alloc _, ((Blk.new' w _ _ _).alloc _).alloc _, (Blk.newAt (by simp) _ _).alloc _, Blk.newAt (by simp) _ _, ((((Below.refl _ _).alloc (Nat.le_refl _) _).alloc (by simp) _).alloc (by simp; omega) _).alloc (by simp; omega) _⟩ ?_
  rintro w1 ⟨hS, hQ, hP, hW, hb⟩
  have k1 : w1.cell? ⟨w.heap.size, 1, none⟩ = some (.int .i64 k) := hS.cell (i := 1) rfl
  clear hS
  go_upto_if 8 with fail
  by_cases hk : k = 0
  · subst hk
    obtain rfl : q 0 = x0 := (if_pos rfl).symm.trans hx0.out
    obtain rfl : q 1 = x1 := (if_pos rfl).symm.trans hx1.out
    obtain rfl : q 4 = x2 := (if_pos rfl).symm.trans hx2.out
    obtain rfl : q 5 = x3 := (if_pos rfl).symm.trans hx3.out
    clear hx0 hx1 hx2 hx3
    have c0 : w1.cell? ⟨w.heap.size + 1, 0, none⟩ = some (.int .i64 (q 0)) := hQ.cell (i := 0) rfl
    have c1 : w1.cell? ⟨w.heap.size + 1, 1, none⟩ = some (.int .i64 (q 1)) := hQ.cell (i := 1) rfl
    have c4 : w1.cell? ⟨w.heap.size + 1, 4, none⟩ = some (.int .i64 (q 4)) := hQ.cell (i := 4) rfl
    have c5 : w1.cell? ⟨w.heap.size + 1, 5, none⟩ = some (.int .i64 (q 5)) := hQ.cell (i := 5) rfl
    have p0 : w1.cell? ⟨w.heap.size + 1 + 1, 0, none⟩ = some (.int .i64 0) := hP.cell (i := 0) rfl
    have p1 : w1.cell? ⟨w.heap.size + 1 + 1, 1, none⟩ = some (.int .i64 0) := hP.cell (i := 1) rfl
    have p2 : w1.cell? ⟨w.heap.size + 1 + 1 + 1, 0, none⟩ = some (.int .i64 0) := hW.cell (i := 0) rfl
    have p3 : w1.cell? ⟨w.heap.size + 1 + 1 + 1, 1, none⟩ = some (.int .i64 0) := hW.cell (i := 1) rfl
    have f2 := hP.froz 0
    have f2' := hP.froz 1
    have f3 := hW.froz 0
    have f3' := hW.froz 1
    have HP := Lib.hid hP
    have HW := Lib.hid hW
    have Hb := Lib.hid hb
    clear hP hW hb hQ
    go_wp2_with fail
    go_region
    go_wp2_with fail
    have hz := set22 (v1 := .int .i64 (q 0)) (v2 := .int .i64 (q 1)) (v3 := .int .i64 (q 4)) (v4 := .int .i64 (q 5)) HP.out HW.out (by omega)
    exact bodyPost_ret (res_cell2 Try.results56 rfl rfl (run_load_row' _ _ 45 _ _ _ hz.1 Try.underlying45 rfl (by kernel_rfl)) (run_load_row' _ _ 59 _ _ _ hz.2 Try.underlying59 rfl (by kernel_rfl))) rfl ⟨rfl, ((((Hb.out.setCell (by show w.heap.size ≤ w.heap.size + 1 + 1; omega) _).setCell (by show w.heap.size ≤ w.heap.size + 1 + 1; omega) _).setCell (by show w.heap.size ≤ w.heap.size + 1 + 1 + 1; omega) _).setCell (by show w.heap.size ≤ w.heap.size + 1 + 1 + 1; omega) _).drew⟩
  · obtain rfl : q 2 = x0 := (if_neg hk).symm.trans hx0.out
    obtain rfl : q 3 = x1 := (if_neg hk).symm.trans hx1.out
    obtain rfl : q 6 = x2 := (if_neg hk).symm.trans hx2.out
    obtain rfl : q 7 = x3 := (if_neg hk).symm.trans hx3.out
    clear hx0 hx1 hx2 hx3
    have e0 : (k == 0) = false := beq_eq_false_iff_ne.2 hk
    have c2 : w1.cell? ⟨w.heap.size + 1, 2, none⟩ = some (.int .i64 (q 2)) := hQ.cell (i := 2) rfl
    have c3 : w1.cell? ⟨w.heap.size + 1, 3, none⟩ = some (.int .i64 (q 3)) := hQ.cell (i := 3) rfl
    have c6 : w1.cell? ⟨w.heap.size + 1, 6, none⟩ = some (.int .i64 (q 6)) := hQ.cell (i := 6) rfl
    have c7 : w1.cell? ⟨w.heap.size + 1, 7, none⟩ = some (.int .i64 (q 7)) := hQ.cell (i := 7) rfl
    have p0 : w1.cell? ⟨w.heap.size + 1 + 1, 0, none⟩ = some (.int .i64 0) := hP.cell (i := 0) rfl
    have p1 : w1.cell? ⟨w.heap.size + 1 + 1, 1, none⟩ = some (.int .i64 0) := hP.cell (i := 1) rfl
    have p2 : w1.cell? ⟨w.heap.size + 1 + 1 + 1, 0, none⟩ = some (.int .i64 0) := hW.cell (i := 0) rfl
    have p3 : w1.cell? ⟨w.heap.size + 1 + 1 + 1, 1, none⟩ = some (.int .i64 0) := hW.cell (i := 1) rfl
    have f2 := hP.froz 0
    have f2' := hP.froz 1
    have f3 := hW.froz 0
    have f3' := hW.froz 1
    have HP := Lib.hid hP
    have HW := Lib.hid hW
    have Hb := Lib.hid hb
    clear hP hW hb hQ
    go_wp2_with fail
    go_region
    go_wp2_with fail
    have hz := set22 (v1 := .int .i64 (q 2)) (v2 := .int .i64 (q 3)) (v3 := .int .i64 (q 6)) (v4 := .int .i64 (q 7)) HP.out HW.out (by omega)
    exact bodyPost_ret (res_cell2 Try.results56 rfl rfl (run_load_row' _ _ 45 _ _ _ hz.1 Try.underlying45 rfl (by kernel_rfl)) (run_load_row' _ _ 59 _ _ _ hz.2 Try.underlying59 rfl (by kernel_rfl))) rfl ⟨rfl, ((((Hb.out.setCell (by show w.heap.size ≤ w.heap.size + 1 + 1; omega) _).setCell (by show w.heap.size ≤ w.heap.size + 1 + 1; omega) _).setCell (by show w.heap.size ≤ w.heap.size + 1 + 1 + 1; omega) _).setCell (by show w.heap.size ≤ w.heap.size + 1 + 1 + 1; omega) _).drew⟩
set_option maxHeartbeats 2000000 in
set_option maxRecDepth 100000 in
theorem stands_calls (g mb N : Nat) (x y cp st en : Int) (p' : Option Addr) (c' T : Nat) (m : Int → Option Int) (ax ay now bd r k : Int) (w : World) (hB : Blk w g (wkR x y cp st en p' T c' mb ax ay now bd) 102) (hM : MapI w mb N m) (hN : N < maxLen) (hT : T ≤ 140737488351232) (hm : ∀ j, 0 ≤ (m j).getD 0) :
    Calls Try.prog 33 #[.pointer (some ⟨g, 0, none⟩), .agg #[.int .i64 r, .int .i64 k]] w fun e w' => e = .returned (.int .i64 (if stB T m (r, k) then 0 else 8)) ∧ MapI w' mb (N + 1) (stM T m (r, k)) ∧ Mod (· = mb) w w' := by
  have hE : stB T m (r, k) = decide (¬ r < 0 ∧ ¬ r ≥ T ∧ ¬ k ≥ 2 ∧ (m r).getD 0 = k) := rfl
  have hP : stM T m (r, k) = if stB T m (r, k) then fun j => if j = r then some (k + 1) else m j else m := rfl
  generalize stM T m (r, k) = m' at *
  generalize stB T m (r, k) = E at *
  have hno : Hid (E = false → m' = m) := Lib.hid (fun h => by rw [hP, h]; rfl)
  have hyes : Hid (E = true → m' = fun j => if j = r then some (k + 1) else m j) := Lib.hid (fun h => by rw [hP, h]; rfl)
  clear hP
  replace hE := Lib.hid hE
  replace hm := Lib.hid hm
  go_enter Try.func33, Try.ntmps33
  go_upto_region 1 with fail
  refine wp_world' (fun wx => Blk wx w.heap.size #[.int .i64 r, .int .i64 k] 81 ∧ Blk wx g (wkR x y cp st en p' T c' mb ax ay now bd) 102 ∧ MapI wx mb N m ∧ Mod (· = mb) w wx)
    ⟨Blk.new w _ _, hB.alloc _, hM.mod ((Mod.refl (fun _ => False) _).alloc _) (fun h => h), (Mod.refl _ _).alloc _⟩ ?_
  rintro w1 ⟨hS, hW, hM1, hmd⟩
  clear hB hM
  have s0 : w1.cell? ⟨w.heap.size, 0, none⟩ = some (.int .i64 r) := hS.cell (i := 0) rfl
  have s1 : w1.cell? ⟨w.heap.size, 1, none⟩ = some (.int .i64 k) := hS.cell (i := 1) rfl
  have k5 : w1.cell? ⟨g, 5, none⟩ = some (.slice p' T c') := hW.cell (i := 5) rfl
  have k6 : w1.cell? ⟨g, 6, none⟩ = some (.map (some mb)) := hW.cell (i := 6) rfl
  have HM := Lib.hid hM1
  have HW := Lib.hid hW
  have Hmd := Lib.hid hmd
  clear hM1 hW hmd hS
  by_cases c0 : r < 0
  · have e8 : E = false := by
      rw [hE.out]
      exact decide_eq_false (by omega)
    subst e8
    obtain rfl := hno.out rfl
    clear hE hno hyes
    refine wp_region_quiet_lit (by kernel_rfl) (by kernel_rfl) ?_
    repeat (go_big_quiet_step (fail))
    refine wpQuiet_nil ?_
    rintro _ ⟨z, rfl⟩
    go_wp2_with fail
    go_ret
    exact ⟨rfl, (HM.out.mono (Nat.le_succ _)).mod ((Mod.refl (fun _ => False) _).drewN _) (fun h => h), Hmd.out.drewN _⟩
  by_cases c1 : r ≥ (T : Int)
  · have e8 : E = false := by
      rw [hE.out]
      exact decide_eq_false (by omega)
    subst e8
    obtain rfl := hno.out rfl
    clear hE hno hyes
    refine wp_region_quiet_lit (by kernel_rfl) (by kernel_rfl) ?_
    repeat (go_big_quiet_step (fail))
    refine wpQuiet_nil ?_
    rintro _ ⟨z, rfl⟩
    go_wp2_with fail
    go_ret
    exact ⟨rfl, (HM.out.mono (Nat.le_succ _)).mod ((Mod.refl (fun _ => False) _).drewN _) (fun h => h), Hmd.out.drewN _⟩
  by_cases c2 : k ≥ 2
  · have e8 : E = false := by
      rw [hE.out]
      exact decide_eq_false (by omega)
    subst e8
    obtain rfl := hno.out rfl
    clear hE hno hyes
    refine wp_region_quiet_lit (by kernel_rfl) (by kernel_rfl) ?_
    repeat (go_big_quiet_step (fail))
    refine wpQuiet_nil ?_
    rintro _ ⟨z, rfl⟩
    go_wp2_with fail
    go_ret
    exact ⟨rfl, (HM.out.mono (Nat.le_succ _)).mod ((Mod.refl (fun _ => False) _).drewN _) (fun h => h), Hmd.out.drewN _⟩
  have hr64 : wf64 r := ⟨by omega, by omega⟩
  have hv0 := hm.out r
  obtain ⟨v, hv⟩ : ∃ v, (m r).getD 0 = v := ⟨_, rfl⟩
  rw [hv] at hv0
  have hlk : Hid (∀ W, MapI W mb N m → (Instr.lookup 74 (.map (some mb)) (.int .i64 r) false).run Try.prog W = .ok (.int .i64 v) W) := Lib.hid (fun W h => by rw [← hv]; exact MapI.at h hr64)
  have hE2 : Hid (E = decide (v = k)) := Lib.hid (by
    rw [hE.out, hv]
    exact decide_eq_decide.2 ⟨fun h => h.2.2.2, fun h => ⟨c0, c1, c2, h⟩⟩)
  replace hv := Lib.hid hv
  clear hE
  by_cases c3 : v = k
  · subst c3
    obtain rfl : E = true := by rw [hE2.out]; exact decide_eq_true rfl
    obtain rfl := hyes.out rfl
    clear hE2 hno hyes
    refine wp_region_quiet_lit (by kernel_rfl) (by kernel_rfl) ?_
    iterate 25 (go_big_quiet_step (fail))
    refine wpQuiet_v (by kernel_rfl) (.int .i64 v) (by rintro _ ⟨z, rfl⟩; exact run_lookV rfl rfl rfl (hlk.out _ (HM.out.mod ((Mod.refl (fun _ => False) _).drewN _) (fun h => h)))) ?_
    simp only [Act.put, List.setIfInBounds_toArray, List.set_cons_succ, List.set_cons_zero]
    repeat (go_big_quiet_step (fail))
    refine wpQuiet_nil ?_
    rintro _ ⟨z, rfl⟩
    replace HM := Lib.hid (HM.out.mod ((Mod.refl (fun _ => False) _).drewN z) (fun h => h))
    replace HW := Lib.hid (HW.out.mod ((Mod.refl (fun _ => False) _).drewN z) (fun h => h))
    replace Hmd := Lib.hid (Hmd.out.drewN z)
    replace s0 : (w1.drewN z).cell? ⟨w.heap.size, 0, none⟩ = some (.int .i64 r) := s0
    clear s1 k5 k6
    generalize w1.drewN z = w2 at *
    have K0 : ∀ x : Later (fun _ => False) w2, x.val.cell? ⟨w.heap.size, 0, none⟩ = some (.int .i64 r) := fun x => x.cell s0 (fun h => h)
    have K6 : ∀ x : Later (fun _ => False) w2, x.val.cell? ⟨g, 6, none⟩ = some (.map (some mb)) := fun x => x.cell (HW.out.cell (i := 6) rfl) (fun h => h)
    clear s0
    go_wp2_with fail
    refine wp_region_then (C := fun w' => ∃ x : Later (fun _ => False) w2, w' = x.val) 8 (by kernel_rfl) (by kernel_rfl) ⟨⟨_, (Mod.refl _ _).drew⟩, rfl⟩ ?_
    simp only [List.take_succ_cons, List.take_zero]
    iterate 6 (go_big_quiet_step (fail))
    refine wpQuiet_v (by kernel_rfl) (.int .i64 v) (by rintro _ ⟨x, rfl⟩; exact run_lookV rfl rfl rfl (hlk.out _ (HM.out.mod x.mod (fun h => h)))) ?_
    simp only [Act.put, List.setIfInBounds_toArray, List.set_cons_succ, List.set_cons_zero]
    have hs1 : IntKind.i64.wrap (v + 1) = v + 1 := IntWalk.i64_in _ (by omega)
    repeat (go_big_quiet_step (fail))
    refine wpQuiet_nil ?_
    rintro _ ⟨x, rfl⟩
    obtain ⟨w3, hrun, hM3, hmd3⟩ := MapV.update (HM.out.mod x.mod (fun h => h)) Try.underlying3 Try.underlying3 Try.underlying74 hN (i := r) (v := v + 1) hr64 ⟨by omega, by omega⟩
    have hmd4 := (Hmd.out.trans (x.mod.mono fun _ _ h => h.elim)).trans hmd3
    refine wpAny_ready (rs := [8]) (by kernel_rfl) (by simp) ?_
    refine AllReady.cons rfl (fun K hK => ?_) AllReady.nil
    rw [if_pos (by kernel_rfl)]
    unfold Oper.wp
    rw [run_mapU rfl rfl rfl rfl hrun]
    refine hK _ _ ?_
    clear hK K
    refine wpAny_done (by kernel_rfl) ?_ _
    go_wp2_with fail
    go_ret
    exact ⟨rfl, hM3, hmd4⟩
  · obtain rfl : E = false := by rw [hE2.out]; exact decide_eq_false c3
    obtain rfl := hno.out rfl
    clear hE2 hno hyes
    refine wp_region_quiet_lit (by kernel_rfl) (by kernel_rfl) ?_
    iterate 25 (go_big_quiet_step (fail))
    refine wpQuiet_v (by kernel_rfl) (.int .i64 v) (by rintro _ ⟨z, rfl⟩; exact run_lookV rfl rfl rfl (hlk.out _ (HM.out.mod ((Mod.refl (fun _ => False) _).drewN _) (fun h => h)))) ?_
    simp only [Act.put, List.setIfInBounds_toArray, List.set_cons_succ, List.set_cons_zero]
    repeat (go_big_quiet_step (fail))
    refine wpQuiet_nil ?_
    rintro _ ⟨z, rfl⟩
    go_wp2_with fail
    go_ret
    exact ⟨rfl, (HM.out.mono (Nat.le_succ _)).mod ((Mod.refl (fun _ => False) _).drewN _) (fun h => h), Hmd.out.drewN _⟩
set_option maxHeartbeats 2000000 in
set_option maxRecDepth 100000 in
theorem loads_calls (g mb : Nat) (x y cp st en : Int) (p' : Option Addr) (c' : Nat) (t : List Rq) (ax ay now bd : Int) (n : Nat) (k : Int) (w : World) (hB : Blk w g (wkR x y cp st en p' t.length c' mb ax ay now bd) 102) (hT : Els w p' 10 (t.map rqV)) (hn : n < t.length)
    (hbd : -1000000 ≤ bd ∧ bd ≤ 1000000) (hq : 0 ≤ t[n] 8 ∧ t[n] 8 ≤ 1000) :
    Calls Try.prog 34 #[.pointer (some ⟨g, 0, none⟩), .agg #[.int .i64 (n : Int), .int .i64 k]] w fun e w' => e = .returned (.int .i64 (ldE cp k bd (t[n] 8))) ∧ Blk w' g (wkR x y cp st en p' t.length c' mb ax ay now (ldB k bd (t[n] 8))) 102 ∧ Mod (· = g) w w' := by
  obtain ⟨a, rfl⟩ := hT.some_of (k := n) (by simpa using hn)
  have hl := hT.one (a := a) rfl (k := n) (by simpa using hn) 8 (.int .i64 (t[n] 8)) (by simp [rqV])
  have hbig : t.length ≤ 140737488351232 := by simpa using hT.big
  clear hT
  have hgs := hB.lt
  have hE : ldE cp k bd (t[n] 8) = if k = 1 then 0 else if bd + t[n] 8 > cp then 10 else 0 := rfl
  have hL : ldB k bd (t[n] 8) = if k = 1 then bd - t[n] 8 else bd + t[n] 8 := rfl
  generalize ldE cp k bd (t[n] 8) = E at *
  generalize ldB k bd (t[n] 8) = L at *
  generalize t[n] 8 = q at *
  generalize t.length = T at *
  replace hE := Lib.hid hE
  replace hL := Lib.hid hL
  go_enter Try.func34, Try.ntmps34
  go_upto_region 1 with fail
  refine wp_world' (fun wx => Blk wx w.heap.size #[.int .i64 (n : Int), .int .i64 k] 81 ∧ Blk wx g (wkR x y cp st en (some a) T c' mb ax ay now bd) 102 ∧ wx.cell? ((a.add (n * 10)).add 8) = some (.int .i64 q) ∧ Mod (· = g) w wx)
    ⟨Blk.new w _ _, hB.alloc _, ((Mod.refl (fun _ => False) w).alloc _).cell_of (fun h => h) hl, (Mod.refl _ _).alloc _⟩ ?_
  rintro w1 ⟨hS, hW, hl1, hmd⟩
  clear hB hl
  have s1 : w1.cell? ⟨w.heap.size, 1, none⟩ = some (.int .i64 k) := hS.cell (i := 1) rfl
  have K0 : ∀ x : Later (fun _ => False) w1, x.val.cell? ⟨w.heap.size, 0, none⟩ = some (.int .i64 (n : Int)) := fun x => x.cell (hS.cell (i := 0) rfl) (fun h => h)
  have K5 : ∀ x : Later (fun _ => False) w1, x.val.cell? ⟨g, 5, none⟩ = some (.slice (some a) T c') := fun x => x.cell (hW.cell (i := 5) rfl) (fun h => h)
  have KB : ∀ x : Later (fun _ => False) w1, x.val.cell? ⟨g, 10, none⟩ = some (.int .i64 bd) := fun x => x.cell (hW.cell (i := 10) rfl) (fun h => h)
  have KL : ∀ x : Later (fun _ => False) w1, x.val.cell? ((a.add (n * 10)).add 8) = some (.int .i64 q) := fun x => x.cell hl1 (fun h => h)
  have HW := Lib.hid hW
  have Hmd := Lib.hid hmd
  have hs1 : IntKind.i64.wrap (bd - q) = bd - q := IntWalk.i64_in _ (by omega)
  have hs2 : IntKind.i64.wrap (bd + q) = bd + q := IntWalk.i64_in _ (by omega)
  clear hS hW hmd hl1
  by_cases c0 : k = 1
  · subst c0
    obtain rfl : E = 0 := by rw [hE.out]; exact if_pos rfl
    obtain rfl : L = bd - q := by rw [hL.out]; exact if_pos rfl
    clear hE hL
    go_wp2_with fail
    refine wp_region_then (C := fun w' => ∃ x : Later (fun _ => False) w1, w' = x.val) 16 (by kernel_rfl) (by kernel_rfl) ⟨⟨_, (Mod.refl _ _).drew⟩, rfl⟩ ?_
    simp only [List.take_succ_cons, List.take_zero]
    repeat (go_big_quiet_step (fail))
    refine wpQuiet_v rfl (.int .i64 q) (by rintro _ ⟨x, rfl⟩; exact run_load_v rfl rfl (run_i64 (KL x))) ?_
    simp only [Act.put, List.setIfInBounds_toArray, List.set_cons_succ, List.set_cons_zero]
    repeat (go_big_quiet_step (fail))
    refine wpQuiet_nil ?_
    rintro _ ⟨x, rfl⟩
    have c10 := (HW.out.mod x.mod (fun h => h)).cell (i := 10) (v := .int .i64 bd) rfl
    have f10 := (HW.out.mod x.mod (fun h => h)).froz 10
    refine wpAny_ready (rs := [16]) (by kernel_rfl) (by simp) ?_
    refine AllReady.cons rfl (fun K hK => ?_) AllReady.nil
    go_simp
    refine hK _ _ ?_
    clear hK K
    refine wpAny_done (by kernel_rfl) ?_ _
    have HW2 := Lib.hid ((HW.out.mod x.mod (fun h => h)).set 10 (.int .i64 (bd - q)))
    have Hmd2 := Lib.hid ((Hmd.out.trans (x.mod.mono fun _ _ h => h.elim)).setCell (p := ⟨g, 10, none⟩) (fun _ => rfl) (.int .i64 (bd - q)))
    clear HW Hmd K0 K5 KB KL c10 f10
    go_wp2_with fail
    go_ret
    exact ⟨rfl, HW2.out, Hmd2.out⟩
  · obtain rfl : L = bd + q := by rw [hL.out]; exact if_neg c0
    have hE2 : Hid (E = if bd + q > cp then 10 else 0) := Lib.hid (by rw [hE.out]; exact if_neg c0)
    clear hE hL
    have d0 : (k == 1) = false := beq_eq_false_iff_ne.2 c0
    go_wp2_with fail
    refine wp_region_then (C := fun w' => ∃ x : Later (fun _ => False) w1, w' = x.val) 16 (by kernel_rfl) (by kernel_rfl) ⟨⟨_, (Mod.refl _ _).drew⟩, rfl⟩ ?_
    simp only [List.take_succ_cons, List.take_zero]
    repeat (go_big_quiet_step (fail))
    refine wpQuiet_v rfl (.int .i64 q) (by rintro _ ⟨x, rfl⟩; exact run_load_v rfl rfl (run_i64 (KL x))) ?_
    simp only [Act.put, List.setIfInBounds_toArray, List.set_cons_succ, List.set_cons_zero]
    repeat (go_big_quiet_step (fail))
    refine wpQuiet_nil ?_
    rintro _ ⟨x, rfl⟩
    have c10 := (HW.out.mod x.mod (fun h => h)).cell (i := 10) (v := .int .i64 bd) rfl
    have f10 := (HW.out.mod x.mod (fun h => h)).froz 10
    refine wpAny_ready (rs := [16]) (by kernel_rfl) (by simp) ?_
    refine AllReady.cons rfl (fun K hK => ?_) AllReady.nil
    go_simp
    refine hK _ _ ?_
    clear hK K
    refine wpAny_done (by kernel_rfl) ?_ _
    have HW2 := (HW.out.mod x.mod (fun h => h)).set 10 (.int .i64 (bd + q))
    have Hmd2 := Lib.hid ((Hmd.out.trans (x.mod.mono fun _ _ h => h.elim)).setCell (p := ⟨g, 10, none⟩) (fun _ => rfl) (.int .i64 (bd + q)))
    clear HW Hmd K0 K5 KB KL c10 f10
    generalize World.setCell _ _ _ = w3 at *
    have k10 : w3.cell? ⟨g, 10, none⟩ = some (.int .i64 (bd + q)) := HW2.cell (i := 10) rfl
    have k2 : w3.cell? ⟨g, 2, none⟩ = some (.int .i64 cp) := HW2.cell (i := 2) rfl
    replace HW2 := Lib.hid HW2
    go_upto_region 5 with fail
    refine wp_region_quiet_lit (by kernel_rfl) (by kernel_rfl) ?_
    repeat (go_big_quiet_step (fail))
    refine wpQuiet_nil ?_
    rintro _ ⟨z, rfl⟩
    by_cases c1 : bd + q > cp
    · obtain rfl : E = 10 := hE2.out.trans (if_pos c1)
      go_wp2_with fail
      go_ret
      exact ⟨rfl, HW2.out.mod ((Mod.refl (fun _ => False) _).drewN z) (fun h => h), Hmd2.out.drewN z⟩
    · obtain rfl : E = 0 := hE2.out.trans (if_neg c1)
      go_wp2_with fail
      go_ret
      exact ⟨rfl, HW2.out.mod ((Mod.refl (fun _ => False) _).drewN z) (fun h => h), Hmd2.out.drewN z⟩
section
variable {ρ : Operand → Value} {o : Oper} {w : World} {x y : Operand}
theorem run_callPt {u v : Value} (ho : o.op = .call { callee := .value (.func 56), args := #[x, y], argTypes := #[81, 61] }) (hx : ρ x = u) (hy : ρ y = v)
    (hf : ρ (.func 56) = .func (.func 56) #[] #[] := by rfl) : (execOp ρ o).run Try.prog w = .ok (.enter 56 #[u, v]) w := by
  unfold execOp
  simp only [ho]
  go_simp
end
set_option maxHeartbeats 4000000 in
set_option maxRecDepth 100000 in
theorem goes_calls (g mb : Nat) (vx y cp st en : Int) (p' : Option Addr) (c' : Nat) (t : List Rq) (ax ay now bd : Int) (n : Nat) (k : Int) (w : World) (hB : Blk w g (wkR vx y cp st en p' t.length c' mb ax ay now bd) 102) (hT : Els w p' 10 (t.map rqV)) (hn : n < t.length) (hag : ∀ a, p' = some a → a.block ≠ g)
    (hnow : 0 ≤ now ∧ now ≤ 10000000) (hea : 0 ≤ gE k t[n] ∧ gE k t[n] ≤ 10000000) (hsv : 0 ≤ t[n] 9 ∧ t[n] 9 ≤ 1000) :
    Calls Try.prog 35 #[.pointer (some ⟨g, 0, none⟩), .agg #[.int .i64 (n : Int), .int .i64 k]] w fun e w' =>
      e = .returned (.int .i64 (if gB k t[n] ax ay now > gL k t[n] then 9 else 0)) ∧
      Blk w' g (if gB k t[n] ax ay now > gL k t[n] then wkR vx y cp st en p' t.length c' mb ax ay now bd else wkR vx y cp st en p' t.length c' mb (gX k t[n]) (gY k t[n]) (gB k t[n] ax ay now + t[n] 9) bd) 102 ∧ Mod (· = g) w w' := by
  obtain ⟨a, rfl⟩ := hT.some_of (k := n) (by simpa using hn)
  have hlq : ∀ W, Mod (fun _ => False) w W → (loadVar 61 (a.add (n * 10))).run Try.prog W = .ok (.agg (rqV t[n]).toArray) W := fun W h => by
    have := (hT.mod h (fun _ _ h => h)).load (P := Try.prog) (a := a) rfl (k := n) (by simpa using hn) (ty := 61) Try.underlying61 rfl (by kernel_rfl)
    rwa [List.getElem_map] at this
  have hl9 := hT.one (a := a) rfl (k := n) (by simpa using hn) 9 (.int .i64 (t[n] 9)) (by simp [rqV])
  have hbig : t.length ≤ 140737488351232 := by simpa using hT.big
  have hgs := hB.lt
  have hpt := Lib.hid (fun wx => part_calls t[n] (n : Int) k wx)
  change Hid (∀ wx, Calls Try.prog 56 #[.agg #[.int .i64 (n : Int), .int .i64 k], .agg (rqV t[n]).toArray] wx fun e w' => e = .returned (.tuple #[.agg #[.int .i64 (gX k t[n]), .int .i64 (gY k t[n])], .agg #[.int .i64 (gE k t[n]), .int .i64 (gL k t[n])]]) ∧ Below wx.heap.size wx w') at hpt
  have hds := Lib.hid (fun wx => dist_calls ax ay (gX k t[n]) (gY k t[n]) wx)
  have hdb := dsP_bd ax ay (gX k t[n]) (gY k t[n])
  have hbe : gB k t[n] ax ay now = mx (now + dsP ax ay (gX k t[n]) (gY k t[n])) (gE k t[n]) := rfl
  generalize gB k t[n] ax ay now = b at *
  generalize gX k t[n] = px at *
  generalize gY k t[n] = py at *
  generalize gE k t[n] = ea at *
  generalize gL k t[n] = la at *
  generalize dsP ax ay px py = ds at *
  generalize (rqV t[n]).toArray = Q at *
  generalize t[n] 9 = sv9 at *
  generalize t.length = T at *
  obtain ⟨P, hP⟩ : ∃ P : Array Value, #[.int .i64 px, .int .i64 py] = P := ⟨_, rfl⟩
  obtain ⟨I, hI⟩ : ∃ I : Array Value, #[.int .i64 ea, .int .i64 la] = I := ⟨_, rfl⟩
  rw [hP, hI] at hpt
  have hPs := Lib.hid (show z2.size = P.size by rw [← hP]; rfl)
  have hIs := Lib.hid (show z2.size = I.size by rw [← hI]; rfl)
  have hP1 := Lib.hid (show ∀ v ∈ P.toList, v.oneCell' = true by rw [← hP]; simp [Value.oneCell'])
  have hI1 := Lib.hid (show ∀ v ∈ I.toList, v.oneCell' = true by rw [← hI]; simp [Value.oneCell'])
  replace hP := Lib.hid hP
  replace hI := Lib.hid hI
  replace hbe := Lib.hid hbe
  have hag2 : a.block ≠ g := hag a rfl
  generalize hE : (if b > la then (9 : Int) else 0) = E at *
  generalize hR : (if b > la then wkR vx y cp st en (some a) T c' mb ax ay now bd else wkR vx y cp st en (some a) T c' mb px py (b + sv9) bd) = R at *
  replace hE := Lib.hid hE
  replace hR := Lib.hid hR
  go_enter Try.func35, Try.ntmps35
  go_upto_region 1 with fail
  refine wp_world' (fun wx => Blk wx w.heap.size #[.int .i64 (n : Int), .int .i64 k] 81 ∧ Blk wx g (wkR vx y cp st en (some a) T c' mb ax ay now bd) 102 ∧ Mod (fun _ => False) w wx)
    ⟨Blk.new w _ _, hB.alloc _, (Mod.refl _ _).alloc _⟩ ?_
  rintro w1 ⟨hS, hW, hmd⟩
  replace hl9 := hmd.cell_of (fun h => h) hl9
  replace hlq := Lib.hid (fun (wx : World) (h : Mod (fun _ => False) w1 wx) => hlq wx (hmd.trans h))
  clear hB hT
  have hls := Lib.hid (fun (wx : World) (h : Mod (fun _ => False) w1 wx) => run_load_row' (P := Try.prog) wx w.heap.size 81 _ 81 _ (hS.mod h (fun h => h)) Try.underlying81 rfl (by kernel_rfl))
  have hlt := Lib.hid (fun (wx : World) (h : Mod (fun _ => False) w1 wx) => run_cellRq ((hW.mod h (fun h => h)).cell (i := 5) (v := .slice (some a) T c') rfl))
  have hlr := Lib.hid (fun (wx : World) (h : Mod (fun _ => False) w1 wx) => (hS.mod h (fun h => h)).cell (i := 0) (v := .int .i64 (n : Int)) rfl)
  have HS := Lib.hid hS
  have HW := Lib.hid hW
  have Hmd := Lib.hid hmd
  clear hS hW hmd
  refine wp_region_rove (X := Nat × Nat) (0, 0) (fun x => [(9, .agg #[.int .i64 (n : Int), .int .i64 k]), (10, .pointer (some ⟨g, 0, none⟩)), (11, .pointer (some ⟨g, 0, none⟩)), (12, .pointer (some ⟨g, 5, none⟩)), (13, .slice (some a) T c'), (14, .pointer (some ⟨w.heap.size, 0, none⟩)), (15, .int .i64 (n : Int)), (16, .pointer (some (a.add (n * 10)))), (17, .agg Q), (18, .tuple #[.agg P, .agg I]), (8, .tuple #[.agg P, .agg I]), (19, .agg P), (20, .agg I), (5, .pointer (some ⟨x.1, 0, none⟩)), (6, .pointer (some ⟨x.2, 0, none⟩))])
    (fun x d W' => ClP P I 45 59 w1 x (d 13) (d 14) (d 15) (d 16) W') (by kernel_rfl) (by kernel_rfl) (by kernel_rfl) (by kernel_rfl) (fun x => by kernel_rfl)
    ⟨(Mod.refl _ _).drew, (fun h => by cases h), (fun h => by cases h), fun h => by cases h⟩ ?_ ?_
  · intro aF hAF
    have E3 : ∀ x, (aF x).eval (.tmp 3) = .pointer (some ⟨w.heap.size, 0, none⟩) := by intro x; rw [hAF]; kernel_rfl
    have E0 : ∀ x, (aF x).eval (.tmp 0) = .pointer (some ⟨g, 0, none⟩) := by intro x; rw [hAF]; kernel_rfl
    have T9 : ∀ x, (aF x).tmps[9]? = some (.agg #[.int .i64 (n : Int), .int .i64 k]) := by intro x; rw [hAF]; kernel_rfl
    have E9 : ∀ x, (aF x).eval (.tmp 9) = .agg #[.int .i64 (n : Int), .int .i64 k] := by intro x; rw [hAF]; kernel_rfl
    have T10 : ∀ x, (aF x).tmps[10]? = some (.pointer (some ⟨g, 0, none⟩)) := by intro x; rw [hAF]; kernel_rfl
    have E10 : ∀ x, (aF x).eval (.tmp 10) = .pointer (some ⟨g, 0, none⟩) := by intro x; rw [hAF]; kernel_rfl
    have T11 : ∀ x, (aF x).tmps[11]? = some (.pointer (some ⟨g, 0, none⟩)) := by intro x; rw [hAF]; kernel_rfl
    have E11 : ∀ x, (aF x).eval (.tmp 11) = .pointer (some ⟨g, 0, none⟩) := by intro x; rw [hAF]; kernel_rfl
    have T12 : ∀ x, (aF x).tmps[12]? = some (.pointer (some ⟨g, 5, none⟩)) := by intro x; rw [hAF]; kernel_rfl
    have E12 : ∀ x, (aF x).eval (.tmp 12) = .pointer (some ⟨g, 5, none⟩) := by intro x; rw [hAF]; kernel_rfl
    have T13 : ∀ x, (aF x).tmps[13]? = some (.slice (some a) T c') := by intro x; rw [hAF]; kernel_rfl
    have E13 : ∀ x, (aF x).eval (.tmp 13) = .slice (some a) T c' := by intro x; rw [hAF]; kernel_rfl
    have T14 : ∀ x, (aF x).tmps[14]? = some (.pointer (some ⟨w.heap.size, 0, none⟩)) := by intro x; rw [hAF]; kernel_rfl
    have E14 : ∀ x, (aF x).eval (.tmp 14) = .pointer (some ⟨w.heap.size, 0, none⟩) := by intro x; rw [hAF]; kernel_rfl
    have T15 : ∀ x, (aF x).tmps[15]? = some (.int .i64 (n : Int)) := by intro x; rw [hAF]; kernel_rfl
    have E15 : ∀ x, (aF x).eval (.tmp 15) = .int .i64 (n : Int) := by intro x; rw [hAF]; kernel_rfl
    have T16 : ∀ x, (aF x).tmps[16]? = some (.pointer (some (a.add (n * 10)))) := by intro x; rw [hAF]; kernel_rfl
    have E16 : ∀ x, (aF x).eval (.tmp 16) = .pointer (some (a.add (n * 10))) := by intro x; rw [hAF]; kernel_rfl
    have T17 : ∀ x, (aF x).tmps[17]? = some (.agg Q) := by intro x; rw [hAF]; kernel_rfl
    have E17 : ∀ x, (aF x).eval (.tmp 17) = .agg Q := by intro x; rw [hAF]; kernel_rfl
    have T18 : ∀ x, (aF x).tmps[18]? = some (.tuple #[.agg P, .agg I]) := by intro x; rw [hAF]; kernel_rfl
    have E18 : ∀ x, (aF x).eval (.tmp 18) = .tuple #[.agg P, .agg I] := by intro x; rw [hAF]; kernel_rfl
    have T8 : ∀ x, (aF x).tmps[8]? = some (.tuple #[.agg P, .agg I]) := by intro x; rw [hAF]; kernel_rfl
    have E8 : ∀ x, (aF x).eval (.tmp 8) = .tuple #[.agg P, .agg I] := by intro x; rw [hAF]; kernel_rfl
    have T19 : ∀ x, (aF x).tmps[19]? = some (.agg P) := by intro x; rw [hAF]; kernel_rfl
    have E19 : ∀ x, (aF x).eval (.tmp 19) = .agg P := by intro x; rw [hAF]; kernel_rfl
    have T20 : ∀ x, (aF x).tmps[20]? = some (.agg I) := by intro x; rw [hAF]; kernel_rfl
    have E20 : ∀ x, (aF x).eval (.tmp 20) = .agg I := by intro x; rw [hAF]; kernel_rfl
    have T5 : ∀ x, (aF x).tmps[5]? = some (.pointer (some ⟨x.1, 0, none⟩)) := by intro x; rw [hAF]; kernel_rfl
    have E5 : ∀ x, (aF x).eval (.tmp 5) = .pointer (some ⟨x.1, 0, none⟩) := by intro x; rw [hAF]; kernel_rfl
    have T6 : ∀ x, (aF x).tmps[6]? = some (.pointer (some ⟨x.2, 0, none⟩)) := by intro x; rw [hAF]; kernel_rfl
    have E6 : ∀ x, (aF x).eval (.tmp 6) = .pointer (some ⟨x.2, 0, none⟩) := by intro x; rw [hAF]; kernel_rfl
    replace hAF := Lib.hid hAF
    refine ⟨?_, ?_, ?_, ?_, ?_, ?_, ?_, ?_, ?_, ?_, ?_, ?_, ?_, ?_, ?_, ?_, ?_, trivial⟩
    · exact opOk3_quiet _ (by intro x t hd _; cases hd; exact T9 x) (fun _ => rfl) fun x d w' hd hc => sv (run_load1 rfl (E3 x) (hls.out _ hc.m)) hc
    · exact opOk3_quiet _ (by intro x t hd _; cases hd; exact T10 x) (fun _ => rfl) fun x d w' hd hc => sv (run_mov rfl (E0 x)) hc
    · exact opOk3_quiet _ (by intro x t hd _; cases hd; exact T11 x) (fun _ => rfl) fun x d w' hd hc => sv (run_nilP rfl (E10 x)) hc
    · exact opOk3_quiet _ (by intro x t hd _; cases hd; exact T12 x) (fun _ => rfl) fun x d w' hd hc => sv (run_fldT rfl (E11 x) (fun _ => by kernel_rfl)) hc
    · exact opOk3_quiet _ (by intro x t hd _; cases hd; exact T13 x) (fun _ => rfl) fun x d w' hd hc => sv (run_load1 rfl (E12 x) (hlt.out _ hc.m)) hc
    · exact opOk3_quiet _ (by intro x t hd _; cases hd; exact T14 x) (fun _ => rfl) fun x d w' hd hc => sv (run_fldT rfl (E3 x) (fun _ => by kernel_rfl)) hc
    · exact opOk3_quiet _ (by intro x t hd _; cases hd; exact T15 x) (fun _ => rfl) fun x d w' hd hc => sv (run_load1 rfl (E14 x) (run_i64 (hlr.out _ hc.m))) hc
    · exact opOk3_quiet _ (by intro x t hd _; cases hd; exact T16 x) (fun _ => rfl) fun x d w' hd hc => sv (run_ixRq rfl (E13 x) (E15 x) hn) hc
    · exact opOk3_quiet _ (by intro x t hd _; cases hd; exact T17 x) (fun _ => rfl) fun x d w' hd hc => sv (run_load1 rfl (E16 x) (hlq.out _ hc.m)) hc
    · exact opOk3_quiet _ (by intro x t hd _; cases hd; exact T18 x) (fun _ => rfl) fun x d w' hd hc => sc (run_callPt rfl (E9 x) (E17 x)) ((hpt.out w').mono fun e w'' h => ⟨h.1, hc.mod ((Mod.refl _ _).after h.2)⟩)
    · exact opOk3_quiet _ (by intro x t hd _; cases hd; exact T8 x) (fun _ => rfl) fun x d w' hd hc => sv (run_mov rfl (E18 x)) hc
    · exact opOk3_quiet _ (by intro x t hd _; cases hd; exact T19 x) (fun _ => rfl) fun x d w' hd hc => sv (run_ext rfl (E8 x) rfl) hc
    · exact opOk3_quiet _ (by intro x t hd _; cases hd; exact T20 x) (fun _ => rfl) fun x d w' hd hc => sv (run_ext rfl (E8 x) rfl) hc
    · exact opOk3_loud rfl fun x d w' hd hn hc => by
        have n2 : d 13 = false := hn 13 (by kernel_rfl)
        have n4 : d 15 = false := hn 15 (by kernel_rfl)
        rw [n2, n4] at hc
        refine sk_v (run_allocA rfl) ?_
        refine ⟨(w'.heap.size, x.2), (by rw [hAF.out]; exact agree_set 13 (5, .pointer (some ⟨x.1, 0, none⟩)) rfl (by kernel_rfl)), (by intro t hd _; cases hd; exact T5 _), ?_⟩
        have := hc.box0
        show ClP P I _ _ w1 _ true (d 14) (d 15) (d 16) _
        rw [n4]
        exact this
    · exact opOk3_loud rfl fun x d w' hd hn hc => by
        have n2 : d 14 = false := hn 14 (by kernel_rfl)
        have n4 : d 16 = false := hn 16 (by kernel_rfl)
        rw [n2, n4] at hc
        refine sk_v (run_allocB rfl) ?_
        refine ⟨(x.1, w'.heap.size), (by rw [hAF.out]; exact agree_set 14 (6, .pointer (some ⟨x.2, 0, none⟩)) rfl (by kernel_rfl)), (by intro t hd _; cases hd; exact T6 _), ?_⟩
        have := hc.box1
        show ClP P I _ _ w1 _ (d 13) true (d 15) (d 16) _
        rw [n4]
        exact this
    · exact opOk3_loud rfl fun x d w' hd hn hc => by
        have n2 : d 13 = true := hd 13 (by kernel_rfl)
        have n4 : d 15 = false := hn 15 (by kernel_rfl)
        rw [n2, n4] at hc
        refine sk_s (run_storeP (ty := 45) rfl (E5 x) (E19 x) (run_storeVar_row w' x.1 45 z2 P 45 (hc.x0 rfl).1 hPs.out hP1.out (by rw [← hPs.out]; kernel_rfl))) ⟨x, agree_same _ _, (by intro t hd _; cases hd), ?_⟩
        show ClP P I _ _ w1 _ (d 13) (d 14) true (d 16) _
        rw [n2]
        exact hc.put0
    · exact opOk3_loud rfl fun x d w' hd hn hc => by
        have n2 : d 14 = true := hd 14 (by kernel_rfl)
        have n4 : d 16 = false := hn 16 (by kernel_rfl)
        rw [n2, n4] at hc
        refine sk_s (run_storeP (ty := 59) rfl (E6 x) (E20 x) (run_storeVar_row w' x.2 59 z2 I 59 (hc.x1 rfl).1 hIs.out hI1.out (by rw [← hIs.out]; kernel_rfl))) ⟨x, agree_same _ _, (by intro t hd _; cases hd), ?_⟩
        show ClP P I _ _ w1 _ (d 13) (d 14) (d 15) true _
        rw [n2]
        exact hc.put1
  · intro x d w2 hd hc
    obtain ⟨g5, g6⟩ := x
    simp only [putAll, List.foldl_cons, List.foldl_nil, Act.put, List.setIfInBounds_toArray, List.set_cons_succ, List.set_cons_zero]
    rw [hd 13 (by decide), hd 14 (by decide), hd 15 (by decide), hd 16 (by decide)] at hc
    have hsz := hc.m.size
    obtain ⟨hX5, hg5⟩ : Blk w2 g5 P 45 ∧ w1.heap.size ≤ g5 := hc.x0 rfl
    obtain ⟨hX6, hg6⟩ : Blk w2 g6 I 59 ∧ w1.heap.size ≤ g6 := hc.x1 rfl
    have hne : g5 ≠ g6 := hc.ne rfl rfl
    have hW2 := HW.out.mod hc.m (fun h => h)
    have hS2 := HS.out.mod hc.m (fun h => h)
    have hmd2 := Hmd.out.trans hc.m
    have hl92 := hc.m.cell_of (fun h => h) hl9
    have hg1 := HW.out.lt
    have hs1 := HS.out.lt
    clear hc hd HW HS Hmd hlq hls hlt hlr hpt hPs hIs hP1 hI1 hl9
    obtain rfl := hP.out
    obtain rfl := hI.out
    clear hP hI
    have hla : ∀ x : Later (fun _ => False) w2, (loadVar 45 ⟨g, 7, none⟩).run Try.prog x.val = .ok (.agg #[.int .i64 ax, .int .i64 ay]) x.val := fun x => by
      rw [load_part (P := Try.prog) x.val g (wkR vx y cp st en (some a) T c' mb ax ay now bd) 102 (hW2.mod x.mod (fun h => h)) 7 2 (by show 7 + 2 ≤ 11; omega) 45 _ Try.underlying45 rfl (by kernel_rfl)]
      rfl
    have hlb : ∀ x : Later (fun _ => False) w2, (loadVar 45 ⟨g5, 0, none⟩).run Try.prog x.val = .ok (.agg #[.int .i64 px, .int .i64 py]) x.val := fun x => run_load_row' (P := Try.prog) x.val g5 45 _ 45 _ (hX5.mod x.mod (fun h => h)) Try.underlying45 rfl (by kernel_rfl)
    have K9 : ∀ x : Later (fun _ => False) w2, x.val.cell? ⟨g, 9, none⟩ = some (.int .i64 now) := fun x => x.cell (hW2.cell (i := 9) rfl) (fun h => h)
    have K6 : ∀ x : Later (fun _ => False) w2, x.val.cell? ⟨g6, 0, none⟩ = some (.int .i64 ea) := fun x => x.cell (hX6.cell (i := 0) rfl) (fun h => h)
    have HW := Lib.hid hW2
    have HS := Lib.hid hS2
    have Hmd := Lib.hid hmd2
    have HX5 := Lib.hid hX5
    have HX6 := Lib.hid hX6
    replace hla := Lib.hid hla
    replace hlb := Lib.hid hlb
    replace hl9 := Lib.hid hl92
    have hw1 : IntKind.i64.wrap (now + ds) = now + ds := IntWalk.i64_in _ (by omega)
    clear hW2 hS2 hmd2 hX5 hX6 hl92
    go_upto_region 2 with fail
    refine wp_region_later (w0 := w2) (S := fun _ => False) (Mod.refl _ _) (by kernel_rfl) (by kernel_rfl) ?_
    repeat (go_big_quiet_step (fail))
    refine wpQuiet_v rfl (.agg #[.int .i64 ax, .int .i64 ay]) (by rintro _ ⟨z, rfl⟩; exact run_load_v rfl rfl (hla.out z)) ?_
    simp only [Act.put, List.setIfInBounds_toArray, List.set_cons_succ, List.set_cons_zero]
    refine wpQuiet_v rfl (.agg #[.int .i64 px, .int .i64 py]) (by rintro _ ⟨z, rfl⟩; exact run_load_v rfl rfl (hlb.out z)) ?_
    simp only [Act.put, List.setIfInBounds_toArray, List.set_cons_succ, List.set_cons_zero]
    go_big_quiet_step (((go_at_call 27; with_reducible exact Calls.later (hds.out _))))
    iterate 3 (go_big_quiet_step (fail))
    refine wpQuiet_v rfl (.int .i64 b) (by rintro _ ⟨z, rfl⟩; exact run_maxD hbe.out rfl rfl rfl) ?_
    simp only [Act.put, List.setIfInBounds_toArray, List.set_cons_succ, List.set_cons_zero]
    repeat (go_big_quiet_step (fail))
    refine wpQuiet_nil ?_
    rintro _ ⟨z, rfl⟩
    have hzs := z.mod.size
    have hW3 := HW.out.mod z.mod (fun h => h)
    have hS3 := HS.out.mod z.mod (fun h => h)
    have hX53 := HX5.out.mod z.mod (fun h => h)
    have hX63 := HX6.out.mod z.mod (fun h => h)
    have hmd3 := Hmd.out.trans z.mod
    have hl93 := z.mod.cell_of (fun h => h) hl9.out
    have hlt5 := HX5.out.lt
    have hlt6 := HX6.out.lt
    clear hla hlb K9 K6 HW HS Hmd HX5 HX6 hl9 hds
    generalize z.val = w3 at *
    clear z
    have k61 : w3.cell? ⟨g6, 1, none⟩ = some (.int .i64 la) := hX63.cell (i := 1) rfl
    have hbb : 0 ≤ b ∧ b ≤ 10002048 := by rw [hbe.out]; unfold mx; split <;> omega
    go_upto_if 38 with fail
    have HW := Lib.hid hW3
    have HS := Lib.hid hS3
    have Hmd := Lib.hid hmd3
    have HX5 := Lib.hid hX53
    have hl9 := Lib.hid hl93
    clear hW3 hS3 hX53 hX63 hmd3 hl93 k61
    by_cases hbl : b > la
    · obtain rfl : 9 = E := (if_pos hbl).symm.trans hE.out
      obtain rfl := (if_pos hbl).symm.trans hR.out
      clear hE hR
      go_wp2_with fail
      go_ret
      exact ⟨rfl, HW.out, Hmd.out.mono fun _ _ h => h.elim⟩
    · obtain rfl : 0 = E := (if_neg hbl).symm.trans hE.out
      obtain rfl := (if_neg hbl).symm.trans hR.out
      clear hE hR
      have hgS : ¬ (w.heap.size = g) := by omega
      have hg5 : ¬ (g5 = g) := by omega
      have hgA : ¬ (((a.add (n * 10)).add 9).block = g) := by rw [addr_block, addr_block]; exact hag2
      go_upto_region 5 with fail
      refine wp_region_puts [16, 19] [(39, .pointer (some ⟨g, 0, none⟩)), (40, .pointer (some ⟨g, 0, none⟩)), (41, .agg #[.int .i64 px, .int .i64 py]), (42, .int .i64 b), (43, .pointer (some ⟨g, 0, none⟩)), (44, .pointer (some ⟨g, 0, none⟩)), (45, .pointer (some ⟨g, 5, none⟩)), (46, .slice (some a) T c'), (47, .pointer (some ⟨w.heap.size, 0, none⟩)), (48, .int .i64 (n : Int)), (49, .pointer (some (a.add (n * 10)))), (50, .pointer (some ((a.add (n * 10)).add 9))), (51, .int .i64 sv9), (52, .int .i64 (b + sv9)), (53, .pointer (some ⟨g, 0, none⟩)), (54, .pointer (some ⟨g, 7, none⟩)), (55, .pointer (some ⟨g, 0, none⟩)), (56, .pointer (some ⟨g, 9, none⟩))]
        (fun k W' => Mod (fun j => j = g) w3 W' ∧ Blk W' g (match k with | 0 => wkR vx y cp st en (some a) T c' mb ax ay now bd | 1 => wkR vx y cp st en (some a) T c' mb px py now bd | _ => wkR vx y cp st en (some a) T c' mb px py (b + sv9) bd) 102) (by kernel_rfl) (by kernel_rfl) (by kernel_rfl) (by kernel_rfl) (by kernel_rfl)
        ⟨(Mod.refl _ _).drew, HW.out.drew⟩ ?_ ?_
      · intro aF hAF
        have E3 : aF.eval (.tmp 3) = .pointer (some ⟨w.heap.size, 0, none⟩) := by rw [← hAF]; kernel_rfl
        have E0 : aF.eval (.tmp 0) = .pointer (some ⟨g, 0, none⟩) := by rw [← hAF]; kernel_rfl
        have E5 : aF.eval (.tmp 5) = .pointer (some ⟨g5, 0, none⟩) := by rw [← hAF]; kernel_rfl
        have E7 : aF.eval (.tmp 7) = .int .i64 b := by rw [← hAF]; kernel_rfl
        have T39 : aF.tmps[39]? = some (.pointer (some ⟨g, 0, none⟩)) := by rw [← hAF]; kernel_rfl
        have E39 : aF.eval (.tmp 39) = .pointer (some ⟨g, 0, none⟩) := by rw [← hAF]; kernel_rfl
        have T40 : aF.tmps[40]? = some (.pointer (some ⟨g, 0, none⟩)) := by rw [← hAF]; kernel_rfl
        have E40 : aF.eval (.tmp 40) = .pointer (some ⟨g, 0, none⟩) := by rw [← hAF]; kernel_rfl
        have T41 : aF.tmps[41]? = some (.agg #[.int .i64 px, .int .i64 py]) := by rw [← hAF]; kernel_rfl
        have E41 : aF.eval (.tmp 41) = .agg #[.int .i64 px, .int .i64 py] := by rw [← hAF]; kernel_rfl
        have T42 : aF.tmps[42]? = some (.int .i64 b) := by rw [← hAF]; kernel_rfl
        have E42 : aF.eval (.tmp 42) = .int .i64 b := by rw [← hAF]; kernel_rfl
        have T43 : aF.tmps[43]? = some (.pointer (some ⟨g, 0, none⟩)) := by rw [← hAF]; kernel_rfl
        have E43 : aF.eval (.tmp 43) = .pointer (some ⟨g, 0, none⟩) := by rw [← hAF]; kernel_rfl
        have T44 : aF.tmps[44]? = some (.pointer (some ⟨g, 0, none⟩)) := by rw [← hAF]; kernel_rfl
        have E44 : aF.eval (.tmp 44) = .pointer (some ⟨g, 0, none⟩) := by rw [← hAF]; kernel_rfl
        have T45 : aF.tmps[45]? = some (.pointer (some ⟨g, 5, none⟩)) := by rw [← hAF]; kernel_rfl
        have E45 : aF.eval (.tmp 45) = .pointer (some ⟨g, 5, none⟩) := by rw [← hAF]; kernel_rfl
        have T46 : aF.tmps[46]? = some (.slice (some a) T c') := by rw [← hAF]; kernel_rfl
        have E46 : aF.eval (.tmp 46) = .slice (some a) T c' := by rw [← hAF]; kernel_rfl
        have T47 : aF.tmps[47]? = some (.pointer (some ⟨w.heap.size, 0, none⟩)) := by rw [← hAF]; kernel_rfl
        have E47 : aF.eval (.tmp 47) = .pointer (some ⟨w.heap.size, 0, none⟩) := by rw [← hAF]; kernel_rfl
        have T48 : aF.tmps[48]? = some (.int .i64 (n : Int)) := by rw [← hAF]; kernel_rfl
        have E48 : aF.eval (.tmp 48) = .int .i64 (n : Int) := by rw [← hAF]; kernel_rfl
        have T49 : aF.tmps[49]? = some (.pointer (some (a.add (n * 10)))) := by rw [← hAF]; kernel_rfl
        have E49 : aF.eval (.tmp 49) = .pointer (some (a.add (n * 10))) := by rw [← hAF]; kernel_rfl
        have T50 : aF.tmps[50]? = some (.pointer (some ((a.add (n * 10)).add 9))) := by rw [← hAF]; kernel_rfl
        have E50 : aF.eval (.tmp 50) = .pointer (some ((a.add (n * 10)).add 9)) := by rw [← hAF]; kernel_rfl
        have T51 : aF.tmps[51]? = some (.int .i64 sv9) := by rw [← hAF]; kernel_rfl
        have E51 : aF.eval (.tmp 51) = .int .i64 sv9 := by rw [← hAF]; kernel_rfl
        have T52 : aF.tmps[52]? = some (.int .i64 (b + sv9)) := by rw [← hAF]; kernel_rfl
        have E52 : aF.eval (.tmp 52) = .int .i64 (b + sv9) := by rw [← hAF]; kernel_rfl
        have T53 : aF.tmps[53]? = some (.pointer (some ⟨g, 0, none⟩)) := by rw [← hAF]; kernel_rfl
        have E53 : aF.eval (.tmp 53) = .pointer (some ⟨g, 0, none⟩) := by rw [← hAF]; kernel_rfl
        have T54 : aF.tmps[54]? = some (.pointer (some ⟨g, 7, none⟩)) := by rw [← hAF]; kernel_rfl
        have E54 : aF.eval (.tmp 54) = .pointer (some ⟨g, 7, none⟩) := by rw [← hAF]; kernel_rfl
        have T55 : aF.tmps[55]? = some (.pointer (some ⟨g, 0, none⟩)) := by rw [← hAF]; kernel_rfl
        have E55 : aF.eval (.tmp 55) = .pointer (some ⟨g, 0, none⟩) := by rw [← hAF]; kernel_rfl
        have T56 : aF.tmps[56]? = some (.pointer (some ⟨g, 9, none⟩)) := by rw [← hAF]; kernel_rfl
        have E56 : aF.eval (.tmp 56) = .pointer (some ⟨g, 9, none⟩) := by rw [← hAF]; kernel_rfl
        clear hAF
        have hk5 : ∀ k W', (Mod (fun j => j = g) w3 W' ∧ Blk W' g (match k with | 0 => wkR vx y cp st en (some a) T c' mb ax ay now bd | 1 => wkR vx y cp st en (some a) T c' mb px py now bd | _ => wkR vx y cp st en (some a) T c' mb px py (b + sv9) bd) 102) → W'.cell? ⟨g, 5, none⟩ = some (.slice (some a) T c') := by
          rintro k W' ⟨_, h⟩
          match k, h with
          | 0, h => exact h.cell (i := 5) rfl
          | 1, h => exact h.cell (i := 5) rfl
          | _ + 2, h => exact h.cell (i := 5) rfl
        refine ⟨?_, ?_, ?_, ?_, ?_, ?_, ?_, ?_, ?_, ?_, ?_, ?_, ?_, ?_, ?_, ?_, ?_, ?_, ?_, ?_, trivial⟩
        · exact opOk_quiet _ (by intro d hd _; cases hd; exact T39) rfl (by simp) fun k w' hc => sv (run_mov rfl E0) hc
        · exact opOk_quiet _ (by intro d hd _; cases hd; exact T40) rfl (by simp) fun k w' hc => sv (run_mov rfl E0) hc
        · exact opOk_quiet _ (by intro d hd _; cases hd; exact T41) rfl (by simp) fun k w' hc => sv (run_load1 rfl E5 (run_load_row' (P := Try.prog) w' g5 45 _ 45 _ (HX5.out.mod hc.1 hg5) Try.underlying45 rfl (by kernel_rfl))) hc
        · exact opOk_quiet _ (by intro d hd _; cases hd; exact T42) rfl (by simp) fun k w' hc => sv (run_mov rfl E7) hc
        · exact opOk_quiet _ (by intro d hd _; cases hd; exact T43) rfl (by simp) fun k w' hc => sv (run_mov rfl E0) hc
        · exact opOk_quiet _ (by intro d hd _; cases hd; exact T44) rfl (by simp) fun k w' hc => sv (run_nilP rfl E43) hc
        · exact opOk_quiet _ (by intro d hd _; cases hd; exact T45) rfl (by simp) fun k w' hc => sv (run_fldT rfl E44 (fun _ => by kernel_rfl)) hc
        · exact opOk_quiet _ (by intro d hd _; cases hd; exact T46) rfl (by simp) fun k w' hc => sv (run_load1 rfl E45 (run_cellRq (hk5 _ _ hc))) hc
        · exact opOk_quiet _ (by intro d hd _; cases hd; exact T47) rfl (by simp) fun k w' hc => sv (run_fldT rfl E3 (fun _ => by kernel_rfl)) hc
        · exact opOk_quiet _ (by intro d hd _; cases hd; exact T48) rfl (by simp) fun k w' hc => sv (run_load1 rfl E47 (run_i64 ((HS.out.mod hc.1 hgS).cell (i := 0) (v := .int .i64 (n : Int)) rfl))) hc
        · exact opOk_quiet _ (by intro d hd _; cases hd; exact T49) rfl (by simp) fun k w' hc => sv (run_ixRq rfl E46 E48 hn) hc
        · exact opOk_quiet _ (by intro d hd _; cases hd; exact T50) rfl (by simp) fun k w' hc => sv (run_fldA rfl E49) hc
        · exact opOk_quiet _ (by intro d hd _; cases hd; exact T51) rfl (by simp) fun k w' hc => sv (run_load1 rfl E50 (run_i64 (hc.1.cell_of hgA hl9.out))) hc
        · exact opOk_quiet _ (by intro d hd _; cases hd; exact T52) rfl (by simp) fun k w' hc => sv (run_addD (by omega) rfl E42 E51) hc
        · exact opOk_quiet _ (by intro d hd _; cases hd; exact T53) rfl (by simp) fun k w' hc => sv (run_nilP rfl E39) hc
        · exact opOk_quiet _ (by intro d hd _; cases hd; exact T54) rfl (by simp) fun k w' hc => sv (run_fldT rfl E53 (fun _ => by kernel_rfl)) hc
        · exact opOk_chain 0 undef (by intro d hd _; cases hd) rfl rfl (by decide) fun w' hc =>
          ss (run_storeP rfl E54 E41 (run_storeVar_part w' g 7 45 _ _ _ hc.2 (by show 7 + 2 ≤ 11; omega) (by simp [Value.oneCell']) (by kernel_rfl))) ⟨hc.1.trans (mod_row w' g _), setRow_heap w' g _ _ 102 (0, 0) hc.2⟩
        · exact opOk_quiet _ (by intro d hd _; cases hd; exact T55) rfl (by simp) fun k w' hc => sv (run_nilP rfl E40) hc
        · exact opOk_quiet _ (by intro d hd _; cases hd; exact T56) rfl (by simp) fun k w' hc => sv (run_fldT rfl E55 (fun _ => by kernel_rfl)) hc
        · exact opOk_chain 1 undef (by intro d hd _; cases hd) rfl rfl (by decide) fun w' hc =>
          ss (run_storeI rfl E56 E52 (hc.2.cell (i := 9) (v := .int .i64 now) rfl) (hc.2.froz 9)) ⟨hc.1.setCell (p := ⟨g, 9, none⟩) (fun _ => rfl) _, hc.2.set 9 (.int .i64 (b + sv9))⟩
      · rintro w4 ⟨hm4, hB4⟩
        simp only [putAll, List.foldl_cons, List.foldl_nil, Act.put, List.setIfInBounds_toArray, List.set_cons_succ, List.set_cons_zero]
        replace hB4 := Lib.hid hB4
        have hM4 := Lib.hid ((Hmd.out.mono fun _ _ h => h.elim).trans hm4)
        clear hm4 HW HS Hmd HX5 hl9
        go_wp2_with fail
        go_ret
        exact ⟨rfl, hB4.out, hM4.out⟩
theorem run_walk (x y cp st en : Int) (p' : Option Addr) (n c' mb : Nat) (w : World) : (Instr.build 102 #[(0, .agg #[.int .i64 x, .int .i64 y, .int .i64 cp, .int .i64 st, .int .i64 en]), (1, .slice p' n c'), (2, .map (some mb)), (3, .agg #[.int .i64 x, .int .i64 y]), (4, .int .i64 st)]).run Try.prog w = .ok (.agg (wkR x y cp st en p' n c' mb x y st 0)) w := by kernel_rfl
/-- while the three asks of a stop are made: what stands behind each -/
def FsI (x y cp st en : Int) (p' : Option Addr) (c' mb g N : Nat) (t : List Rq) (m : Int → Option Int) (ax ay now bd : Int) (s : Int × Int) (q : Rq) : Nat → World → Prop
  | 0, W => MapI W mb N m ∧ Blk W g (wkR x y cp st en p' t.length c' mb ax ay now bd) 102
  | 1, W => stB t.length m s = true ∧ MapI W mb (N + 1) (stM t.length m s) ∧ Blk W g (wkR x y cp st en p' t.length c' mb ax ay now bd) 102
  | 2, W => stB t.length m s = true ∧ ldE cp s.2 bd (q 8) = 0 ∧ MapI W mb (N + 1) (stM t.length m s) ∧ Blk W g (wkR x y cp st en p' t.length c' mb ax ay now (ldB s.2 bd (q 8))) 102
  | _, W => stB t.length m s = true ∧ ldE cp s.2 bd (q 8) = 0 ∧ ¬ gB s.2 q ax ay now > gL s.2 q ∧ MapI W mb (N + 1) (stM t.length m s) ∧ Blk W g (wkR x y cp st en p' t.length c' mb (gX s.2 q) (gY s.2 q) (gB s.2 q ax ay now + q 9) (ldB s.2 bd (q 8))) 102
theorem loads_calls' (g mb : Nat) (x y cp st en : Int) (p' : Option Addr) (c' : Nat) (t : List Rq) (ax ay now bd : Int) (r k : Int) (w : World) (hB : Blk w g (wkR x y cp st en p' t.length c' mb ax ay now bd) 102) (hT : Els w p' 10 (t.map rqV)) (hr : 0 ≤ r ∧ r < t.length)
    (hbd : -1000000 ≤ bd ∧ bd ≤ 1000000) (hq : 0 ≤ t.getD r.toNat rqZ0 8 ∧ t.getD r.toNat rqZ0 8 ≤ 1000) :
    Calls Try.prog 34 #[.pointer (some ⟨g, 0, none⟩), .agg #[.int .i64 r, .int .i64 k]] w fun e w' => e = .returned (.int .i64 (ldE cp k bd (t.getD r.toNat rqZ0 8))) ∧ Blk w' g (wkR x y cp st en p' t.length c' mb ax ay now (ldB k bd (t.getD r.toNat rqZ0 8))) 102 ∧ Mod (· = g) w w' := by
  obtain ⟨n, rfl⟩ := Int.eq_ofNat_of_zero_le hr.1
  have hn : n < t.length := by omega
  rw [Int.toNat_natCast, getD_at t hn] at hq ⊢
  exact loads_calls g mb x y cp st en p' c' t ax ay now bd n k w hB hT hn hbd hq
theorem goes_calls' (g mb : Nat) (x y cp st en : Int) (p' : Option Addr) (c' : Nat) (t : List Rq) (ax ay now bd : Int) (r k : Int) (w : World) (hB : Blk w g (wkR x y cp st en p' t.length c' mb ax ay now bd) 102) (hT : Els w p' 10 (t.map rqV)) (hr : 0 ≤ r ∧ r < t.length) (hag : ∀ a, p' = some a → a.block ≠ g)
    (hnow : 0 ≤ now ∧ now ≤ 10000000) (hea : 0 ≤ gE k (t.getD r.toNat rqZ0) ∧ gE k (t.getD r.toNat rqZ0) ≤ 10000000) (hsv : 0 ≤ t.getD r.toNat rqZ0 9 ∧ t.getD r.toNat rqZ0 9 ≤ 1000) :
    Calls Try.prog 35 #[.pointer (some ⟨g, 0, none⟩), .agg #[.int .i64 r, .int .i64 k]] w fun e w' =>
      e = .returned (.int .i64 (if gB k (t.getD r.toNat rqZ0) ax ay now > gL k (t.getD r.toNat rqZ0) then 9 else 0)) ∧
      Blk w' g (if gB k (t.getD r.toNat rqZ0) ax ay now > gL k (t.getD r.toNat rqZ0) then wkR x y cp st en p' t.length c' mb ax ay now bd else wkR x y cp st en p' t.length c' mb (gX k (t.getD r.toNat rqZ0)) (gY k (t.getD r.toNat rqZ0)) (gB k (t.getD r.toNat rqZ0) ax ay now + t.getD r.toNat rqZ0 9) bd) 102 ∧ Mod (· = g) w w' := by
  obtain ⟨n, rfl⟩ := Int.eq_ofNat_of_zero_le hr.1
  have hn : n < t.length := by omega
  rw [Int.toNat_natCast, getD_at t hn] at hea hsv ⊢
  exact goes_calls g mb x y cp st en p' c' t ax ay now bd n k w hB hT hn hag hnow hea hsv
theorem run_ix0 (f0 f1 f2 : Value) (w : World) : (Instr.index 104 (.agg #[f0, f1, f2]) (.int .i64 0)).run Try.prog w = .ok f0 w := by kernel_rfl
theorem run_ix1 (f0 f1 f2 : Value) (w : World) : (Instr.index 104 (.agg #[f0, f1, f2]) (.int .i64 1)).run Try.prog w = .ok f1 w := by kernel_rfl
theorem run_ix2 (f0 f1 f2 : Value) (w : World) : (Instr.index 104 (.agg #[f0, f1, f2]) (.int .i64 2)).run Try.prog w = .ok f2 w := by kernel_rfl
set_option maxHeartbeats 4000000 in
set_option maxRecDepth 100000 in
theorem fcheck_calls (x y cp st en : Int) (p p' : Option Addr) (c c' : Nat) (l : List (Int × Int)) (t : List Rq) (w : World) (hL : Els w p 2 (l.map stV)) (hT : Els w p' 10 (t.map rqV)) :
    Calls Try.prog 12 #[.agg #[.int .i64 x, .int .i64 y, .int .i64 cp, .int .i64 st, .int .i64 en], .slice p l.length c, .slice p' t.length c'] w (FsPost w (fsB x y cp st en l t)) := by
  have hbl : l.length ≤ 140737488351232 := by simpa using hL.big
  have hbt : t.length ≤ 140737488351232 := by simpa using hT.big
  have hX : fsB x y cp st en l t = (decide (vehCode x y cp st en = 0) && (t.all fun q => rqE q == 0) && decide (l.length ≤ 16) && fsEnd x y en (fsRun cp t l (fun _ => none) x y st 0)) := rfl
  have hv := Lib.hid (fun w => vehicle_calls x y cp st en w)
  have hvz := Lib.hid (fun h => vehCode_zero (x := x) (y := y) (cp := cp) (st := st) (en := en) h)
  have hq := Lib.hid (fun w (q : Rq) => check_calls (q 0) (q 1) (q 2) (q 3) (q 4) (q 5) (q 6) (q 7) (q 8) (q 9) w)
  have hwr := Lib.hid (fun e p i w => wrong_calls e p i w)
  generalize fsB x y cp st en l t = X at hX ⊢
  generalize vehCode x y cp st en = ve at hX hv hvz
  replace hX := Lib.hid hX
  replace hL := Lib.hid hL
  replace hT := Lib.hid hT
  go_enter Try.func12, Try.ntmps12
  go_upto_region 1 with fail
  refine wp_world' (fun wx => Blk wx w.heap.size #[.int .i64 x, .int .i64 y, .int .i64 cp, .int .i64 st, .int .i64 en] 47 ∧ Below w.heap.size w wx)
    ⟨Blk.new w _ _, (Below.refl _ _).alloc (Nat.le_refl _) _⟩ ?_
  rintro w1 ⟨hV, hb⟩
  have hlv := Lib.hid (run_load_row' (P := Try.prog) w1 w.heap.size 47 #[.int .i64 x, .int .i64 y, .int .i64 cp, .int .i64 st, .int .i64 en] 47 _ hV Try.underlying47 rfl (by kernel_rfl))
  have HV := Lib.hid hV
  have Hb := Lib.hid hb
  clear hV hb
  go_step3
  go_wp2_with (first | (refine wpList_load_v rfl 47 _ rfl ⟨w.heap.size, 0, none⟩ rfl _ hlv.out ?_))
  refine (hv.out _).mono ?_
  rintro e w2 ⟨rfl, hb2⟩
  have hV2 := Lib.hid (HV.out.mod ((Mod.refl (fun _ => False) _).after hb2) (fun h => h))
  have hbb := Lib.hid (Hb.out.trans (hb2.mono Hb.out.size))
  clear hlv HV Hb hb2 hv
  by_cases v0 : ve = 0
  · subst v0
    obtain ⟨hc1, hc2, hs1, hs2, hs3⟩ := hvz.out rfl
    clear hvz
    go_wp2_with fail
    go_loopw [22] (fun i wr => ∃ k : Nat, k ≤ t.length ∧ i = .int .i64 k ∧ Hid (∀ j q, j < k → t[j]? = some q → rqE q = 0) ∧ Below w.heap.size w wr ∧ Blk wr w.heap.size #[.int .i64 x, .int .i64 y, .int .i64 cp, .int .i64 st, .int .i64 en] 47) (fun i _ => t.length - (intOf i).toNat)
    case atStart => exact ⟨0, Nat.zero_le _, rfl, Lib.hid (fun j q h => by omega), hbb.out, hV2.out⟩
    case round =>
      obtain ⟨k, hkl, rfl, hR, hbr, hVr⟩ := hrel
      by_cases hlt : k < t.length
      · have hltI : (k : Int) < (t.length : Int) := by omega
        have s1 : IntKind.i64.wrap ((k : Int) + 1) = (k : Int) + 1 := IntWalk.i64_in _ (by omega)
        obtain ⟨a, rfl⟩ := (hT.out.below hbr).some_of (k := k) (by simpa using hlt)
        have hla := Lib.hid ((hT.out.below hbr).load (P := Try.prog) (a := a) rfl (k := k) (by simpa using hlt) (ty := 61) Try.underlying61 rfl (by kernel_rfl))
        rw [List.getElem_map] at hla
        have htk : t[k]? = some t[k] := List.getElem?_eq_getElem hlt
        generalize t[k] = q at hla htk
        have hqq : Hid (rqCode (q 0) (q 1) (q 2) (q 3) (q 4) (q 5) (q 6) (q 7) (q 8) (q 9) = rqE q) := Lib.hid rfl
        have hcq := Lib.hid (fun w => hq.out w q)
        rw [hqq.out] at hcq
        have hbad : Hid (rqE q ≠ 0 → X = false) := Lib.hid (fun h => by
          have : (t.all fun q => rqE q == 0) = false := by
            rw [List.all_eq_false]
            exact ⟨q, List.mem_of_getElem? htk, by simpa using h⟩
          rw [hX.out, this]
          simp)
        have hok : Hid (rqE q = 0 → ∀ j q, j < k + 1 → t[j]? = some q → rqE q = 0) := Lib.hid (fun h j u hj hju => by
          by_cases e : j = k
          · subst e; rw [htk] at hju; cases hju; exact h
          · exact hR.out j u (by omega) hju)
        clear hR htk hqq hV2 hbb
        generalize rqE q = rc at hcq hbad hok
        have hq1 := Lib.hid (run_load_row' (P := Try.prog) _ wr.heap.size 61 (rqV q).toArray 61 _ (Blk.new wr (rqV q).toArray 61) Try.underlying61 rfl (by kernel_rfl))
        replace hVr := Lib.hid hVr
        replace hbr := Lib.hid hbr
        go_wp2_with (first | (refine wpList_load_v rfl 61 _ rfl (a.add (k * 10)) rfl _ hla.out ?_) | (refine wpList_store_new rfl 61 _ _ rfl rfl rfl _ (rqV q).toArray _ rfl rfl (rqV_one _) (by kernel_rfl) ?_) | (refine wpList_load_v rfl 61 _ rfl ⟨wr.heap.size, 0, none⟩ rfl _ hq1.out ?_))
        refine (hcq.out _).mono ?_
        rintro e w3 ⟨rfl, hb3⟩
        have hV3 := Lib.hid ((hVr.out.alloc (.cells (rqV q).toArray 61)).mod ((Mod.refl (fun _ => False) _).after hb3) (fun h => h))
        have hbA := hbr.out.alloc hbr.out.size (.cells (rqV q).toArray 61)
        replace hb3 := Lib.hid (hbA.trans (hb3.mono hbA.size))
        clear hla hcq hbr hVr hbA hq1
        by_cases r0 : rc = 0
        · have hok' := Lib.hid (hok.out r0)
          subst r0
          clear hbad hok
          go_wp2_with fail
          go_roundw
          case rel => exact ⟨k + 1, by omega, by simp, hok', hb3.out, hV3.out⟩
          case measure => simp [intOf]; omega
        · obtain rfl : X = false := hbad.out r0
          have d1 : (rc == 0) = false := beq_eq_false_iff_ne.2 r0
          have d2 : (rc != 0) = true := by rw [bne, d1]; rfl
          clear hbad hok hX hV3
          go_wp2_with fail
          refine (hwr.out _ _ _ _).mono ?_
          rintro e w4 ⟨⟨b, rfl⟩, hb4⟩
          go_wp2_with fail
          go_ret
          exact FsPost.no (hb3.out.trans (hb4.mono hb3.out.size))
      · obtain rfl : k = t.length := by omega
        have hqz : Hid (∀ q ∈ t, rqE q = 0) := Lib.hid (fun q hq => by
          obtain ⟨j, hj, rfl⟩ := List.getElem_of_mem hq
          exact hR.out j _ hj (List.getElem?_eq_getElem hj))
        have hX2 : X = (decide (l.length ≤ 16) && fsEnd x y en (fsRun cp t l (fun _ => none) x y st 0)) := by
          have : (t.all fun q => rqE q == 0) = true := by
            rw [List.all_eq_true]
            intro q hq
            simpa using hqz.out q hq
          rw [hX.out, this]
          simp
        replace hX2 := Lib.hid hX2
        replace hbr := Lib.hid hbr
        replace hVr := Lib.hid hVr
        clear hX hR hq hbb hV2
        go_upto_region 9 with fail
        have hmm := @run_makeMap Try.prog
        have hlv9 := Lib.hid (run_load_row' (P := Try.prog) wr w.heap.size 47 #[.int .i64 x, .int .i64 y, .int .i64 cp, .int .i64 st, .int .i64 en] 47 _ hVr.out Try.underlying47 rfl (by kernel_rfl))
        have hVm := Lib.hid (hVr.out.alloc (.map #[] 0))
        have hlp9 := Lib.hid (show (loadVar 45 ⟨w.heap.size, 0, none⟩).run Try.prog (wr.alloc (.map #[] 0)) = .ok (.agg #[.int .i64 x, .int .i64 y]) (wr.alloc (.map #[] 0)) by
          rw [load_part (P := Try.prog) _ w.heap.size _ 47 hVm.out 0 2 (by show 0 + 2 ≤ 5; omega) 45 _ Try.underlying45 rfl (by kernel_rfl)]
          rfl)
        have k3 : (wr.alloc (.map #[] 0)).cell? ⟨w.heap.size, 3, none⟩ = some (.int .i64 st) := hVm.out.cell (i := 3) rfl
        go_upto_region 10 with (first | (refine wpList_load_v rfl 47 _ rfl ⟨w.heap.size, 0, none⟩ rfl _ hlv9.out ?_) | (refine wpList_load_v rfl 45 _ rfl ⟨w.heap.size, 0, none⟩ rfl _ hlp9.out ?_) | (refine wpList_buildn_v rfl 102 _ rfl #[(0, .agg #[.int .i64 x, .int .i64 y, .int .i64 cp, .int .i64 st, .int .i64 en]), (1, .slice p' t.length c'), (2, .map (some wr.heap.size)), (3, .agg #[.int .i64 x, .int .i64 y]), (4, .int .i64 st)] (by kernel_rfl) (.agg (wkR x y cp st en p' t.length c' wr.heap.size x y st 0)) (run_walk x y cp st en p' t.length c' wr.heap.size _) ?_))
        have hlt0 := hVr.out.lt
        have hW0 := Lib.hid (Blk.new' wr (.map #[] 0) (wkR x y cp st en p' t.length c' wr.heap.size x y st 0) 102)
        have hM0 : Hid (MapI ((wr.alloc (.map #[] 0)).alloc (.cells (wkR x y cp st en p' t.length c' wr.heap.size x y st 0) 102)) wr.heap.size 0 (fun _ => none)) :=
          Lib.hid ((MapV.new Try.prog 3 3 wr).mod ((Mod.refl (fun _ => False) _).alloc _) (fun h => h))
        have hV0 := Lib.hid (hVm.out.alloc (.cells (wkR x y cp st en p' t.length c' wr.heap.size x y st 0) 102))
        have hb0 := Lib.hid ((hbr.out.alloc hbr.out.size (.map #[] 0)).alloc (by have := hbr.out.size; simp; omega) (.cells (wkR x y cp st en p' t.length c' wr.heap.size x y st 0) 102))
        clear hmm hlv9 hVm hlp9 k3 hVr hbr
        generalize hmb : wr.heap.size = mb at *
        generalize ((wr.alloc (.map #[] 0)).alloc (.cells (wkR x y cp st en p' t.length c' mb x y st 0) 102)) = w4 at *
        clear hmb
        go_upto_block 2 with fail
        first | go_step3 | (refine wp_label ?_)
        go_upto_block 2 with fail
        go_cut [10, 11] (fun s10 s11 wx => ∃ ec av, s10 = .int .i64 ec ∧ s11 = .int .i64 av ∧ ((ec = 0 ∧ l.length ≤ 16 ∧ ∃ ax ay now bd, fsRun cp t l (fun _ => none) x y st 0 = some (ax, ay, now, bd) ∧ (0 ≤ now ∧ now ≤ 10000000) ∧ Blk wx (mb + 1) (wkR x y cp st en p' t.length c' mb ax ay now bd) 102) ∨ (ec ≠ 0 ∧ X = false)) ∧ Blk wx w.heap.size #[.int .i64 x, .int .i64 y, .int .i64 cp, .int .i64 st, .int .i64 en] 47 ∧ Below w.heap.size w wx)
        case first =>
          go_wp2_with fail
          go_loopw [10, 11, 44] (fun s10 s11 s44 wx => ∃ (k : Nat) (m : Int → Option Int) (ax ay now bd av : Int), k ≤ l.length ∧ k ≤ 16 ∧ s44 = .int .i64 k ∧ s10 = .int .i64 0 ∧ s11 = .int .i64 av ∧ Hid (fsRun cp t l (fun _ => none) x y st 0 = fsRun cp t (l.drop k) m ax ay now bd) ∧
            Hid (∀ j, 0 ≤ (m j).getD 0) ∧ (0 ≤ now ∧ now ≤ 10000000) ∧ (-1000 * (k : Int) ≤ bd ∧ bd ≤ 1000 * (k : Int)) ∧ MapI wx mb k m ∧ Blk wx (mb + 1) (wkR x y cp st en p' t.length c' mb ax ay now bd) 102 ∧ Blk wx w.heap.size #[.int .i64 x, .int .i64 y, .int .i64 cp, .int .i64 st, .int .i64 en] 47 ∧ Below w.heap.size w wx) (fun _ _ s44 _ => l.length - (intOf s44).toNat)
          case atStart => exact ⟨0, fun _ => none, x, y, st, 0, 0, Nat.zero_le _, Nat.zero_le _, rfl, rfl, rfl, Lib.hid rfl, Lib.hid (fun _ => Int.le_refl _), ⟨by omega, by omega⟩, ⟨by omega, by omega⟩, hM0.out, hW0.out, hV0.out, hb0.out⟩
          case round =>
            obtain ⟨k, m, ax, ay, now, bd, av, hkl, hk16, rfl, rfl, rfl, hR, hm0, hnw, hbd, hMr, hWr, hVr, hbr⟩ := hrel
            clear hM0 hW0 hV0 hb0
            replace hMr := Lib.hid hMr
            replace hWr := Lib.hid hWr
            replace hVr := Lib.hid hVr
            replace hbr := Lib.hid hbr
            by_cases hlt : k < l.length
            · have hltI : (k : Int) < (l.length : Int) := by omega
              have s1 : IntKind.i64.wrap ((k : Int) + 1) = (k : Int) + 1 := IntWalk.i64_in _ (by omega)
              obtain ⟨a, rfl⟩ := (hL.out.below hbr.out).some_of (k := k) (by simpa using hlt)
              have hla := Lib.hid ((hL.out.below hbr.out).load (P := Try.prog) (a := a) rfl (k := k) (by simpa using hlt) (ty := 81) Try.underlying81 rfl (by kernel_rfl))
              rw [List.getElem_map] at hla
              have hdr : l.drop k = l[k] :: l.drop (k + 1) := List.drop_eq_getElem_cons hlt
              rw [hdr] at hR
              generalize l[k] = s at hla hR
              clear hdr
              obtain ⟨r, kd⟩ := s
              go_upto_if 51 with (first | (refine wpList_load_v rfl 81 _ rfl (a.add (k * 2)) rfl _ hla.out ?_) | (refine wpList_store_new rfl 81 _ _ rfl rfl rfl _ (stV (r, kd)).toArray _ rfl rfl (by simp [stV, Value.oneCell']) (by kernel_rfl) ?_))
              have hS4 := Lib.hid (Blk.new wr (stV (r, kd)).toArray 81)
              have hM4 := Lib.hid (hMr.out.mod ((Mod.refl (fun _ => False) _).alloc (.cells (stV (r, kd)).toArray 81)) (fun h => h))
              have hW4 := Lib.hid (hWr.out.alloc (.cells (stV (r, kd)).toArray 81))
              have hV4 := Lib.hid (hVr.out.alloc (.cells (stV (r, kd)).toArray 81))
              have hb4 := Lib.hid (hbr.out.alloc hbr.out.size (.cells (stV (r, kd)).toArray 81))
              have hgl := hWr.out.lt
              have hml := hMr.out.lt
              clear hla hMr hWr hVr hbr
              generalize hgs : wr.heap.size = gs at *
              generalize wr.alloc (.cells (stV (r, kd)).toArray 81) = w5 at *
              clear hgs
              by_cases hk6 : k = 16
              · subst hk6
                obtain rfl : X = false := by rw [hX2.out]; simp; omega
                clear hL hX2 hR hM4 hW4 hS4
                go_wp2_with fail
                all_goals (go_meet)
                exact ⟨11, _, rfl, rfl, .inr ⟨by decide, by simp⟩, hV4.out, hb4.out⟩
              · have hk6I : ¬ (k : Int) = 16 := by omega
                have e16 : ((k : Int) == 16) = false := beq_eq_false_iff_ne.2 hk6I
                change Hid (Blk w5 gs #[.int .i64 r, .int .i64 kd] 81) at hS4
                obtain ⟨q, hqd⟩ : ∃ q, t.getD r.toNat rqZ0 = q := ⟨_, rfl⟩
                have hbad : Hid (¬ (stB t.length m (r, kd) = true ∧ ldE cp kd bd (q 8) = 0 ∧ ¬ gB kd q ax ay now > gL kd q) → X = false) := Lib.hid (fun h => by
                  have e : fsRun cp t l (fun _ => none) x y st 0 = none := by
                    rw [hR.out, fsRun]
                    simp only [hqd]
                    rw [if_neg h]
                  rw [hX2.out, e]
                  simp [fsEnd])
                have hgood : Hid (stB t.length m (r, kd) = true → ldE cp kd bd (q 8) = 0 → ¬ gB kd q ax ay now > gL kd q → fsRun cp t l (fun _ => none) x y st 0 = fsRun cp t (l.drop (k + 1)) (stM t.length m (r, kd)) (gX kd q) (gY kd q) (gB kd q ax ay now + q 9) (ldB kd bd (q 8))) := Lib.hid (fun h1 h2 h3 => by
                  rw [hR.out, fsRun]
                  simp only [hqd]
                  rw [if_pos ⟨h1, h2, h3⟩])
                have hqv : Hid (stB t.length m (r, kd) = true → rqE q = 0) := Lib.hid (fun h => by
                  have h1 := stB_true h
                  refine hqz.out q ?_
                  rw [← hqd]
                  have hn : r.toNat < t.length := by omega
                  rw [getD_at t hn]
                  exact List.getElem_mem hn)
                go_upto_block 4 with fail
                go_wp2_with fail
                go_loopw [10, 59] (fun s10 s59 wx => s10 = .int .i64 0 ∧ ((s59 = .int .i64 0 ∧ FsI x y cp st en p' c' mb (mb + 1) k t m ax ay now bd (r, kd) q 0 wx) ∨ (s59 = .int .i64 1 ∧ FsI x y cp st en p' c' mb (mb + 1) k t m ax ay now bd (r, kd) q 1 wx) ∨ (s59 = .int .i64 2 ∧ FsI x y cp st en p' c' mb (mb + 1) k t m ax ay now bd (r, kd) q 2 wx) ∨ (s59 = .int .i64 3 ∧ FsI x y cp st en p' c' mb (mb + 1) k t m ax ay now bd (r, kd) q 3 wx)) ∧
                  Blk wx gs #[.int .i64 r, .int .i64 kd] 81 ∧ Blk wx w.heap.size #[.int .i64 x, .int .i64 y, .int .i64 cp, .int .i64 st, .int .i64 en] 47 ∧ Below w.heap.size w wx) (fun _ s59 _ => 3 - (intOf s59).toNat)
                case atStart => exact ⟨rfl, .inl ⟨rfl, hM4.out, hW4.out⟩, hS4.out, hV4.out, hb4.out⟩
                case round =>
                  obtain ⟨rfl, hJ, hS5, hV5, hb5⟩ := hrel
                  clear hM4 hW4 hS4 hV4 hb4 hR
                  have hls := Lib.hid (run_load_row' (P := Try.prog) _ gs 81 _ 81 _ hS5 Try.underlying81 rfl (by kernel_rfl))
                  have hT5 := hT.out.below hb5
                  replace hS5 := Lib.hid hS5
                  replace hV5 := Lib.hid hV5
                  replace hb5 := Lib.hid hb5
                  rcases hJ with ⟨rfl, hI⟩ | ⟨rfl, hI⟩ | ⟨rfl, hI⟩ | ⟨rfl, hI⟩
                  · have hst := Lib.hid (stands_calls (mb + 1) mb k x y cp st en p' c' t.length m ax ay now bd r kd _ hI.2 hI.1 (by unfold maxLen; omega) hbt hm0.out)
                    have hWk := Lib.hid hI.2
                    have hix := @run_ix0
                    clear hI hT5
                    go_wp2_with (first | (refine wpList_load_v rfl 81 _ rfl ⟨gs, 0, none⟩ rfl _ hls.out ?_))
                    refine hst.out.mono ?_
                    rintro e w6 ⟨rfl, hM6, hmd6⟩
                    have HW6 := Lib.hid (hWk.out.mod hmd6 (fun h => by omega))
                    have HM6 := Lib.hid hM6
                    have HS6 := Lib.hid (hS5.out.mod hmd6 (fun h => by omega))
                    have HV6 := Lib.hid (hV5.out.mod hmd6 (fun h => by omega))
                    have Hb6 := Lib.hid (hb5.out.trans (hmd6.below hb5.out.size (fun j h => by omega)))
                    clear hst hM6 hmd6 hWk hS5 hV5 hb5 hls hix
                    by_cases hsb : stB t.length m (r, kd) = true
                    · have Hsb := Lib.hid hsb
                      simp only [if_pos hsb]
                      clear hsb
                      clear hbad
                      go_wp2_with fail
                      go_roundw
                      case rel => exact ⟨rfl, .inr (.inl ⟨rfl, Hsb.out, HM6.out, HW6.out⟩), HS6.out, HV6.out, Hb6.out⟩
                      case measure => simp [intOf]
                    · obtain rfl : X = false := hbad.out (fun h => hsb h.1)
                      simp only [if_neg hsb]
                      clear hbad hgood hqv hsb HW6 HM6 HS6 hX2
                      go_wp2_with fail
                      all_goals (go_meet)
                      exact ⟨8, _, rfl, rfl, .inr ⟨by decide, by simp⟩, HV6.out, Hb6.out⟩
                  · have hsb := stB_true hI.1
                    have hqa := rqE_all (hqv.out hI.1)
                    have hld := loads_calls' (mb + 1) mb x y cp st en p' c' t ax ay now bd r kd _ hI.2.2 hT5 ⟨hsb.1, hsb.2.1⟩ ⟨by omega, by omega⟩ (by rw [hqd]; omega)
                    rw [hqd] at hld
                    replace hld := Lib.hid hld
                    have HI := Lib.hid hI
                    have hix := @run_ix1
                    clear hI hT5 hsb hqa
                    go_wp2_with (first | (refine wpList_load_v rfl 81 _ rfl ⟨gs, 0, none⟩ rfl _ hls.out ?_))
                    refine hld.out.mono ?_
                    rintro e w6 ⟨rfl, hW6, hmd6⟩
                    have HM6 := Lib.hid (HI.out.2.1.mod hmd6 (fun h => by omega))
                    have HW6 := Lib.hid hW6
                    have HS6 := Lib.hid (hS5.out.mod hmd6 (fun h => by omega))
                    have HV6 := Lib.hid (hV5.out.mod hmd6 (fun h => by omega))
                    have Hb6 := Lib.hid (hb5.out.trans (hmd6.below hb5.out.size (fun j h => by omega)))
                    have Hsb := Lib.hid HI.out.1
                    clear hld hW6 hmd6 HI hS5 hV5 hb5 hls hix
                    by_cases hle : ldE cp kd bd (q 8) = 0
                    · have Hle := Lib.hid hle
                      rw [hle]
                      clear hle hbad
                      go_wp2_with fail
                      go_roundw
                      case rel => exact ⟨rfl, .inr (.inr (.inl ⟨rfl, Hsb.out, Hle.out, HM6.out, HW6.out⟩)), HS6.out, HV6.out, Hb6.out⟩
                      case measure => simp [intOf]
                    · obtain rfl : X = false := hbad.out (fun h => hle h.2.1)
                      generalize ldE cp kd bd (q 8) = ec at *
                      have d1 : (ec == 0) = false := beq_eq_false_iff_ne.2 hle
                      have d2 : (ec != 0) = true := by rw [bne, d1]; rfl
                      clear hbad hgood hqv HW6 HM6 HS6 hX2
                      go_wp2_with fail
                      all_goals (go_meet)
                      exact ⟨ec, _, rfl, rfl, .inr ⟨hle, by simp⟩, HV6.out, Hb6.out⟩
                  · have hsb := stB_true hI.1
                    have hqa := rqE_all (hqv.out hI.1)
                    have hge : 0 ≤ gE kd q ∧ gE kd q ≤ 10000000 := by unfold gE; split <;> omega
                    have hgo := goes_calls' (mb + 1) mb x y cp st en p' c' t ax ay now (ldB kd bd (q 8)) r kd _ hI.2.2.2 hT5 ⟨hsb.1, hsb.2.1⟩ (fun a e => by have h1 := rq_lt hT.out e (by omega); have h2 := hb5.out.size; omega) hnw (by rw [hqd]; exact hge) (by rw [hqd]; omega)
                    rw [hqd] at hgo
                    replace hgo := Lib.hid hgo
                    have HI := Lib.hid hI
                    have hix := @run_ix2
                    clear hI hT5 hsb hqa hge
                    go_wp2_with (first | (refine wpList_load_v rfl 81 _ rfl ⟨gs, 0, none⟩ rfl _ hls.out ?_))
                    refine hgo.out.mono ?_
                    rintro e w6 ⟨rfl, hW6, hmd6⟩
                    have HM6 := Lib.hid (HI.out.2.2.1.mod hmd6 (fun h => by omega))
                    have HS6 := Lib.hid (hS5.out.mod hmd6 (fun h => by omega))
                    have HV6 := Lib.hid (hV5.out.mod hmd6 (fun h => by omega))
                    have Hb6 := Lib.hid (hb5.out.trans (hmd6.below hb5.out.size (fun j h => by omega)))
                    have Hsb := Lib.hid HI.out.1
                    have Hle := Lib.hid HI.out.2.1
                    clear hgo hmd6 HI hS5 hV5 hb5 hls hix
                    by_cases hgt : gB kd q ax ay now > gL kd q
                    · obtain rfl : X = false := hbad.out (fun h => by have := h.2.2; omega)
                      simp only [if_pos hgt]
                      clear hbad hgood hqv HM6 HS6 hX2 hW6 hgt
                      go_wp2_with fail
                      all_goals (go_meet)
                      exact ⟨9, _, rfl, rfl, .inr ⟨by decide, by simp⟩, HV6.out, Hb6.out⟩
                    · rw [if_neg hgt] at hW6
                      have HW6 := Lib.hid hW6
                      have Hgt := Lib.hid hgt
                      simp only [if_neg hgt]
                      clear hgt hW6 hbad
                      go_wp2_with fail
                      go_roundw
                      case rel => exact ⟨rfl, .inr (.inr (.inr ⟨rfl, Hsb.out, Hle.out, Hgt.out, HM6.out, HW6.out⟩)), HS6.out, HV6.out, Hb6.out⟩
                      case measure => simp [intOf]
                  · have Hgd := Lib.hid (hgood.out hI.1 hI.2.1 (Int.not_lt.1 hI.2.2.1))
                    have hsb := stB_true hI.1
                    have hqa := rqE_all (hqv.out hI.1)
                    have HI := Lib.hid hI.2.2.2
                    have Hgt := Lib.hid hI.2.2.1
                    have Hm := Lib.hid (show ∀ j, 0 ≤ (stM t.length m (r, kd) j).getD 0 by
                      intro j
                      have := hm0.out j
                      have := hm0.out r
                      have e4 : (m r).getD 0 = kd := hsb.2.2.2
                      unfold stM
                      rw [if_pos hI.1]
                      show 0 ≤ (if j = r then some (kd + 1) else m j).getD 0
                      split
                      · show 0 ≤ kd + 1; omega
                      · assumption)
                    have Hnw : 0 ≤ gB kd q ax ay now + q 9 ∧ gB kd q ax ay now + q 9 ≤ 10000000 := by
                      have h1 : ¬ gB kd q ax ay now > gL kd q := Hgt.out
                      have h2 : gL kd q ≤ 1048576 := by unfold gL; split <;> omega
                      have h3 : 0 ≤ gE kd q := by unfold gE; split <;> omega
                      have h4 : gE kd q ≤ gB kd q ax ay now := by unfold gB mx; split <;> omega
                      omega
                    have Hbd : -1000 * ((k + 1 : Nat) : Int) ≤ ldB kd bd (q 8) ∧ ldB kd bd (q 8) ≤ 1000 * ((k + 1 : Nat) : Int) := by
                      unfold ldB
                      split <;> omega
                    clear hI hsb hqa hls hT5 hbad hgood hqv
                    go_wp2_with fail
                    refine ⟨⟨k + 1, stM t.length m (r, kd), gX kd q, gY kd q, gB kd q ax ay now + q 9, ldB kd bd (q 8), k, by omega, by omega, by simp, rfl, rfl, Hgd, Hm, Hnw, Hbd, HI.out.1, HI.out.2, hV5.out, hb5.out⟩, ?_⟩
                    simp [intOf]
                    omega
            · obtain rfl : k = l.length := by omega
              rw [List.drop_length] at hR
              have hRe := Lib.hid (show fsRun cp t l (fun _ => none) x y st 0 = some (ax, ay, now, bd) from hR.out)
              clear hL hX2 hR hMr
              go_wp2_with fail
              go_meet
              exact ⟨0, av, rfl, rfl, .inl ⟨rfl, hk16, ax, ay, now, bd, hRe.out, hnw, hWr.out⟩, hVr.out, hbr.out⟩
        case rest =>
          obtain ⟨ec, av, rfl, rfl, hcase, hVc, hbc⟩ := hcut
          clear hL hqz hM0 hW0 hV0 hb0
          have HV := Lib.hid hVc
          have Hb := Lib.hid hbc
          clear hVc hbc
          rcases hcase with ⟨rfl, hl16, ax, ay, now, bd, hfs, hnw, hWc⟩ | ⟨hec, rfl⟩
          · have hX3 : X = fsEnd x y en (some (ax, ay, now, bd)) := by rw [hX2.out, hfs]; simp [hl16]
            replace hX3 := Lib.hid hX3
            have c10 := hWc.cell (i := 10) (v := .int .i64 bd) rfl
            have HW := Lib.hid hWc
            clear hX2 hfs hWc
            by_cases hb0 : bd > 0
            · obtain rfl : X = false := by rw [hX3.out]; simp [fsEnd, hb0]
              clear hX3
              go_wp2_with fail
              refine (hwr.out _ _ _ _).mono ?_
              rintro e w6 ⟨⟨b, rfl⟩, hb6⟩
              go_wp2_with fail
              go_ret
              exact FsPost.no (Hb.out.trans (hb6.mono Hb.out.size))
            · have hds := Lib.hid (fun wx => dist_calls ax ay x y wx)
              have hdb := dsP_bd ax ay x y
              have hX4 : X = decide (¬ now + dsP ax ay x y > en) := by
                rw [hX3.out]
                simp [fsEnd, hb0]
              replace hX4 := Lib.hid hX4
              generalize dsP ax ay x y = ds at *
              clear hX3
              have hw1 : IntKind.i64.wrap (now + ds) = now + ds := IntWalk.i64_in _ (by omega)
              have hla : ∀ z : Later (fun _ => False) wc, (loadVar 45 ⟨mb + 1, 7, none⟩).run Try.prog z.val = .ok (.agg #[.int .i64 ax, .int .i64 ay]) z.val := fun z => by
                rw [load_part (P := Try.prog) z.val (mb + 1) (wkR x y cp st en p' t.length c' mb ax ay now bd) 102 (HW.out.mod z.mod (fun h => h)) 7 2 (by show 7 + 2 ≤ 11; omega) 45 _ Try.underlying45 rfl (by kernel_rfl)]
                rfl
              have hlb : ∀ z : Later (fun _ => False) wc, (loadVar 45 ⟨w.heap.size, 0, none⟩).run Try.prog z.val = .ok (.agg #[.int .i64 x, .int .i64 y]) z.val := fun z => by
                rw [load_part (P := Try.prog) z.val w.heap.size _ 47 (HV.out.mod z.mod (fun h => h)) 0 2 (by show 0 + 2 ≤ 5; omega) 45 _ Try.underlying45 rfl (by kernel_rfl)]
                rfl
              have K9 : ∀ z : Later (fun _ => False) wc, z.val.cell? ⟨mb + 1, 9, none⟩ = some (.int .i64 now) := fun z => z.cell (HW.out.cell (i := 9) rfl) (fun h => h)
              have K4 : ∀ z : Later (fun _ => False) wc, z.val.cell? ⟨w.heap.size, 4, none⟩ = some (.int .i64 en) := fun z => z.cell (HV.out.cell (i := 4) rfl) (fun h => h)
              replace hla := Lib.hid hla
              replace hlb := Lib.hid hlb
              go_upto_region 28 with fail
              clear c10
              refine wp_region_later (w0 := wc) (S := fun _ => False) (Mod.refl _ _) (by kernel_rfl) (by kernel_rfl) ?_
              iterate 7 (go_big_quiet_step (fail))
              refine wpQuiet_v rfl (.agg #[.int .i64 ax, .int .i64 ay]) (by rintro _ ⟨z, rfl⟩; exact run_load_v rfl rfl (hla.out z)) ?_
              simp only [Act.put, List.setIfInBounds_toArray, List.set_cons_succ, List.set_cons_zero]
              go_big_quiet_step (fail)
              refine wpQuiet_v rfl (.agg #[.int .i64 x, .int .i64 y]) (by rintro _ ⟨z, rfl⟩; exact run_load_v rfl rfl (hlb.out z)) ?_
              simp only [Act.put, List.setIfInBounds_toArray, List.set_cons_succ, List.set_cons_zero]
              go_big_quiet_step (((go_at_call 27; with_reducible exact Calls.later (hds.out _))))
              repeat (go_big_quiet_step (fail))
              refine wpQuiet_nil ?_
              rintro _ ⟨z, rfl⟩
              have Hb2 := Lib.hid (Hb.out.trans (z.mod.below Hb.out.size (fun _ h => h.elim)))
              clear hla hlb K9 K4 HW HV Hb hds
              generalize z.val = w5 at *
              clear z
              by_cases hl : now + ds > en
              · obtain rfl : X = false := by rw [hX4.out]; simp [hl]
                go_wp2_with fail
                refine (hwr.out _ _ _ _).mono ?_
                rintro e w6 ⟨⟨b, rfl⟩, hb6⟩
                go_wp2_with fail
                go_ret
                exact FsPost.no (Hb2.out.trans (hb6.mono Hb2.out.size))
              · obtain rfl : X = true := by rw [hX4.out]; simp [hl]
                go_wp2_with fail
                go_ret
                exact FsPost.yes Hb2.out
          · have d1 : (ec == 0) = false := beq_eq_false_iff_ne.2 hec
            have d2 : (ec != 0) = true := by rw [bne, d1]; rfl
            clear hX2
            go_wp2_with fail
            refine (hwr.out _ _ _ _).mono ?_
            rintro e w6 ⟨⟨b, rfl⟩, hb6⟩
            go_wp2_with fail
            go_ret
            exact FsPost.no (Hb.out.trans (hb6.mono Hb.out.size))
  · obtain rfl : X = false := by rw [hX.out]; simp [v0]
    have d1 : (ve == 0) = false := beq_eq_false_iff_ne.2 v0
    have d2 : (ve != 0) = true := by rw [bne, d1]; rfl
    clear hvz hX
    go_wp2_with fail
    refine (hwr.out _ _ _ _).mono ?_
    rintro e w3 ⟨⟨b, rfl⟩, hb3⟩
    go_wp2_with fail
    go_ret
    exact FsPost.no (hbb.out.trans (hb3.mono hbb.out.size))
theorem ptG_of {T : List Rq} {m : Int → Option Int} {s : Int × Int} (h : stB T.length m s = true) (hm : ∀ j, 0 ≤ (m j).getD 0) :
    ptB s T = true ∧ ptG s T = ⟨gX s.2 (T.getD s.1.toNat rqZ0), gY s.2 (T.getD s.1.toNat rqZ0), gE s.2 (T.getD s.1.toNat rqZ0), gL s.2 (T.getD s.1.toNat rqZ0), T.getD s.1.toNat rqZ0 9⟩ := by
  have h1 := stB_true h
  have h2 := hm s.1
  have hk : s.2 = 0 ∨ s.2 = 1 := by omega
  have hr : ¬ (s.1 < 0 ∨ (T.length : Int) ≤ s.1) := by omega
  unfold ptB ptG ptOf gX gY gE gL
  rw [if_neg hr]
  rcases hk with e | e
  · rw [if_pos e, if_pos e, if_pos e, if_pos e, if_pos e]
    exact ⟨rfl, rfl⟩
  · have e0 : ¬ s.2 = 0 := by omega
    rw [if_neg e0, if_pos e, if_neg e0, if_neg e0, if_neg e0, if_neg e0]
    exact ⟨rfl, rfl⟩
theorem win_of {t : List Rq} (ht : ∀ q ∈ t, rqE q = 0) {m : Int → Option Int} {s : Int × Int} (h : stB t.length m s = true) : wiB (gE s.2 (t.getD s.1.toNat rqZ0)) (gL s.2 (t.getD s.1.toNat rqZ0)) = true := by
  have h1 := stB_true h
  have hn : s.1.toNat < t.length := by omega
  have hq := rqE_all (ht (t.getD s.1.toNat rqZ0) (by rw [getD_at t hn]; exact List.getElem_mem hn))
  unfold gE gL wiB
  by_cases e : s.2 = 0
  · rw [if_pos e, if_pos e]
    exact decide_eq_true hq.1
  · rw [if_neg e, if_neg e]
    exact decide_eq_true hq.2.1
def stOkL (T : Nat) : List (Int × Int) → (Int → Option Int) → Bool
  | [], _ => true
  | s :: r, m => stB T m s && stOkL T r (stM T m s)
def ldRun (cp : Int) (t : List Rq) : List (Int × Int) → Int → Option Int
  | [], bd => some bd
  | s :: r, bd => if ldE cp s.2 bd (t.getD s.1.toNat rqZ0 8) = 0 then ldRun cp t r (ldB s.2 bd (t.getD s.1.toNat rqZ0 8)) else none
theorem stM_nn {T : Nat} {m : Int → Option Int} {s : Int × Int} (hm : ∀ j, 0 ≤ (m j).getD 0) : ∀ j, 0 ≤ (stM T m s j).getD 0 := by
  intro j
  unfold stM
  split
  · rename_i h
    have h1 := stB_true h
    have h2 := hm s.1
    show 0 ≤ (if j = s.1 then some (s.2 + 1) else m j).getD 0
    split
    · show 0 ≤ s.2 + 1; omega
    · exact hm j
  · exact hm j
/-- the way of the program's walk is the three parts together -/
theorem fsRun_iff (cp : Int) {t : List Rq} (ht : ∀ q ∈ t, rqE q = 0) : ∀ (l : List (Int × Int)) (m : Int → Option Int) (ax ay now bd ax' ay' n' b' : Int), (∀ j, 0 ≤ (m j).getD 0) →
    (fsRun cp t l m ax ay now bd = some (ax', ay', n', b') ↔ stOkL t.length l m = true ∧ ldRun cp t l bd = some b' ∧ ∃ L, tmRun t l ax ay now = some (L, ax', ay', n'))
  | [], m, ax, ay, now, bd, ax', ay', n', b', hm => by
    unfold fsRun stOkL ldRun tmRun
    constructor
    · intro h
      cases h
      exact ⟨rfl, rfl, [], rfl⟩
    · rintro ⟨_, h1, L, h2⟩
      cases h1
      cases h2
      rfl
  | s :: r, m, ax, ay, now, bd, ax', ay', n', b', hm => by
    rw [tmRun_cons]
    unfold fsRun stOkL ldRun
    by_cases hs : stB t.length m s = true
    · have hg := (ptG_of hs hm).2
      have hw := win_of ht hs
      rw [hg, hs]
      have ewa : waB (gE s.2 (t.getD s.1.toNat rqZ0)) (gL s.2 (t.getD s.1.toNat rqZ0)) (now + dsP ax ay (gX s.2 (t.getD s.1.toNat rqZ0)) (gY s.2 (t.getD s.1.toNat rqZ0))) = decide (gB s.2 (t.getD s.1.toNat rqZ0) ax ay now ≤ gL s.2 (t.getD s.1.toNat rqZ0)) := by
        unfold waB gB
        rw [hw]
        rfl
      have ih := fsRun_iff cp ht r (stM t.length m s) (gX s.2 (t.getD s.1.toNat rqZ0)) (gY s.2 (t.getD s.1.toNat rqZ0)) (gB s.2 (t.getD s.1.toNat rqZ0) ax ay now + t.getD s.1.toNat rqZ0 9) (ldB s.2 bd (t.getD s.1.toNat rqZ0 8)) ax' ay' n' b' (stM_nn hm)
      simp only [ewa]
      by_cases hl : ldE cp s.2 bd (t.getD s.1.toNat rqZ0 8) = 0
      · by_cases hb : gB s.2 (t.getD s.1.toNat rqZ0) ax ay now ≤ gL s.2 (t.getD s.1.toNat rqZ0)
        · have ewn : waN (gE s.2 (t.getD s.1.toNat rqZ0)) (gL s.2 (t.getD s.1.toNat rqZ0)) (now + dsP ax ay (gX s.2 (t.getD s.1.toNat rqZ0)) (gY s.2 (t.getD s.1.toNat rqZ0))) = gB s.2 (t.getD s.1.toNat rqZ0) ax ay now := by
            unfold waN
            rw [ewa, decide_eq_true hb]
            rfl
          rw [if_pos ⟨trivial, hl, Int.not_lt.2 hb⟩, if_pos hl, if_pos (decide_eq_true hb), ewn, ih]
          simp only [Bool.true_and]
          constructor
          · rintro ⟨h1, h2, L, h3⟩
            exact ⟨h1, h2, _, by rw [h3]; rfl⟩
          · rintro ⟨h1, h2, L, h3⟩
            refine ⟨h1, h2, ?_⟩
            obtain ⟨q, hq, he⟩ := Option.map_eq_some_iff.1 h3
            obtain ⟨L', a, b, c⟩ := q
            cases he
            exact ⟨L', hq⟩
        · rw [if_neg (fun h => h.2.2 (by omega)), if_pos hl, if_neg (by rw [decide_eq_false hb]; simp)]
          simp
      · rw [if_neg (fun h => hl h.2.1), if_neg hl]
        simp
    · have hs' : stB t.length m s = false := by simpa using hs
      rw [hs', if_neg (fun h => by cases h.1)]
      simp
def InvT (T : Nat) (a : List (Int × Int)) (m : Int → Option Int) : Prop := PreT T a ∧ ∀ r, (m r).getD 0 = ((sub a r).length : Int)
theorem inv_step {T : Nat} {a : List (Int × Int)} {m : Int → Option Int} {s : Int × Int} (h : InvT T a m) (hs : stB T m s = true) : InvT T (a ++ [s]) (stM T m s) := by
  have h1 := stB_true hs
  have hc := h.2 s.1
  have hp := h.1 s.1
  obtain ⟨r0, k⟩ := s
  simp only at h1 hc hp
  refine ⟨fun r => ?_, fun r => ?_⟩
  · rw [sub_append, sub_one]
    by_cases e : r0 = r
    · subst e
      rw [if_pos rfl]
      refine .inr ⟨h1.1, h1.2.1, ?_⟩
      rcases hp with hp | ⟨_, _, hp | hp⟩
      · rw [hp] at hc ⊢
        have : k = 0 := by simp at hc; omega
        subst this
        exact .inl rfl
      · rw [hp] at hc ⊢
        have : k = 1 := by simp at hc; omega
        subst this
        exact .inr rfl
      · rw [hp] at hc
        have : k = 2 := by simp [pd] at hc; omega
        omega
    · rw [if_neg e, List.append_nil]
      exact h.1 r
  · rw [sub_append, sub_one]
    unfold stM
    rw [if_pos hs]
    by_cases e : r0 = r
    · subst e
      rw [if_pos rfl]
      simp only [if_true, List.length_append, List.length_singleton, Option.getD_some]
      omega
    · rw [if_neg e, List.append_nil]
      simp only [if_neg (fun h : r = r0 => e h.symm)]
      exact h.2 r
theorem stOk_pre (T : Nat) : ∀ (l a : List (Int × Int)) (m : Int → Option Int), InvT T a m → stOkL T l m = true → PreT T (a ++ l)
  | [], a, m, h, _ => by rw [List.append_nil]; exact h.1
  | s :: r, a, m, h, hs => by
    unfold stOkL at hs
    rw [Bool.and_eq_true] at hs
    have := stOk_pre T r (a ++ [s]) (stM T m s) (inv_step h hs.1) hs.2
    rwa [List.append_assoc] at this
theorem pre_stOk (T : Nat) : ∀ (l a : List (Int × Int)) (m : Int → Option Int), InvT T a m → PreT T (a ++ l) → stOkL T l m = true
  | [], a, m, h, _ => rfl
  | s :: r, a, m, h, hp => by
    have hq := hp s.1
    rw [sub_append, show s :: r = [s] ++ r from rfl, sub_append, sub_one, if_pos rfl] at hq
    have hc := h.2 s.1
    obtain ⟨r0, k⟩ := s
    simp only at hq hc
    have hs : stB T m (r0, k) = true := by
      rcases hq with hq | ⟨h0, h1, hq | hq⟩
      · simp at hq
      · have e : sub a r0 = [] ∧ (r0, k) = (r0, 0) := by
          cases ha : sub a r0 with
          | nil => rw [ha] at hq; simp at hq; exact ⟨rfl, by rw [hq.1]⟩
          | cons x y => rw [ha] at hq; simp at hq
        rw [e.1] at hc
        obtain rfl : k = 0 := by have := e.2; simpa using this
        exact decide_eq_true ⟨by show ¬ r0 < 0; omega, by show ¬ r0 ≥ (T : Int); omega, by show ¬ (0 : Int) ≥ 2; omega, by show (m r0).getD 0 = 0; rw [hc]; rfl⟩
      · unfold pd at hq
        cases ha : sub a r0 with
        | nil =>
          rw [ha] at hq hc
          simp at hq
          obtain rfl : k = 0 := hq.1
          exact decide_eq_true ⟨by show ¬ r0 < 0; omega, by show ¬ r0 ≥ (T : Int); omega, by show ¬ (0 : Int) ≥ 2; omega, by show (m r0).getD 0 = 0; rw [hc]; rfl⟩
        | cons x y =>
          cases y with
          | nil =>
            rw [ha] at hq hc
            simp at hq
            obtain rfl : k = 1 := hq.2.1
            exact decide_eq_true ⟨by show ¬ r0 < 0; omega, by show ¬ r0 ≥ (T : Int); omega, by show ¬ (1 : Int) ≥ 2; omega, by show (m r0).getD 0 = 1; rw [hc]; rfl⟩
          | cons z u => rw [ha] at hq; simp at hq
    unfold stOkL
    rw [hs]
    refine (Bool.true_and _).trans (pre_stOk T r (a ++ [(r0, k)]) (stM T m (r0, k)) (inv_step h hs) ?_)
    rwa [List.append_assoc]
theorem stOk_iff (T : Nat) (l : List (Int × Int)) : stOkL T l (fun _ => none) = true ↔ PreT T l := by
  have h0 : InvT T [] (fun _ => none) := ⟨fun r => .inl rfl, fun r => rfl⟩
  exact ⟨fun h => stOk_pre T l [] _ h0 h, fun h => pre_stOk T l [] _ h0 h⟩
theorem ldRun_iff (cp : Int) (t : List Rq) : ∀ (l : List (Int × Int)) (bd b' : Int), (∀ s ∈ l, (s.2 = 0 ∨ s.2 = 1) ∧ 0 ≤ t.getD s.1.toNat rqZ0 8) → bd ≤ cp →
    (ldRun cp t l bd = some b' ↔ b' = bd + (l.map (sgL t)).sum ∧ ∀ k, k < l.length → bd + onK l t (k + 1) ≤ cp)
  | [], bd, b', _, _ => by
    unfold ldRun
    constructor
    · intro h
      cases h
      exact ⟨by simp, fun k hk => by simp at hk⟩
    · rintro ⟨h, _⟩
      rw [h]
      simp
  | s :: r, bd, b', hs, hb => by
    have h1 := hs s List.mem_cons_self
    have hB : ldB s.2 bd (t.getD s.1.toNat rqZ0 8) = bd + sgL t s := by
      unfold ldB sgL
      rcases h1.1 with e | e <;> simp [e] <;> omega
    unfold ldRun
    rw [hB]
    by_cases hE : ldE cp s.2 bd (t.getD s.1.toNat rqZ0 8) = 0
    · rw [if_pos hE]
      have hle : bd + sgL t s ≤ cp := by
        unfold ldE at hE
        unfold sgL
        rcases h1.1 with e | e
        · rw [if_neg (by omega)] at hE
          rw [if_pos e]
          split at hE <;> omega
        · rw [if_neg (by omega)]
          omega
      rw [ldRun_iff cp t r (bd + sgL t s) b' (fun x hx => hs x (List.mem_cons_of_mem _ hx)) hle, List.map_cons, List.sum_cons]
      constructor
      · rintro ⟨h2, h3⟩
        refine ⟨by omega, fun k hk => ?_⟩
        rw [onK_cons]
        cases k with
        | zero => rw [onK_zero]; omega
        | succ k =>
          have := h3 k (by simpa using hk)
          omega
      · rintro ⟨h2, h3⟩
        refine ⟨by omega, fun k hk => ?_⟩
        have := h3 (k + 1) (by simpa using hk)
        rw [onK_cons] at this
        omega
    · rw [if_neg hE]
      constructor
      · intro h; cases h
      · rintro ⟨_, h3⟩
        exfalso
        apply hE
        have := h3 0 (by simp)
        rw [onK_cons, onK_zero] at this
        unfold ldE
        unfold sgL at this
        rcases h1.1 with e | e
        · rw [if_neg (by omega), if_neg]
          rw [if_pos e] at this
          omega
        · rw [if_pos e]
theorem pre_sum (T : Nat) (t : List Rq) : ∀ (n : Nat) (l : List (Int × Int)), l.length ≤ n → PreT T l → (∀ s ∈ l, 1 ≤ t.getD s.1.toNat rqZ0 8) → 0 ≤ (l.map (sgL t)).sum ∧ ((l.map (sgL t)).sum ≤ 0 ↔ Rou l)
  | 0, l, hn, _, _ => by
    obtain rfl : l = [] := List.length_eq_zero_iff.1 (by omega)
    exact ⟨Int.le_refl _, fun _ r => .inl rfl, fun _ => Int.le_refl _⟩
  | n + 1, [], _, _, _ => ⟨Int.le_refl _, fun _ r => .inl rfl, fun _ => Int.le_refl _⟩
  | n + 1, s :: l, hn, hp, hq => by
    have hs : s ∈ s :: l := List.mem_cons_self
    have hlt := woP_lt hs
    obtain ⟨i1, i2⟩ := pre_sum T t n (woP (s :: l) s.1) (by omega) (fun r => by
      rw [sub_woP]
      split
      · exact .inl rfl
      · exact hp r) (fun x hx => hq x (woP_mem.1 hx).1)
    rw [sum_split (sgL t) s.1]
    have hq1 := hq s hs
    have hne : sub (s :: l) s.1 ≠ [] := fun h => (sub_nil_iff _ _).1 h s hs rfl
    have hrest : Rou (s :: l) → Rou (woP (s :: l) s.1) := fun h => rou_woP h _
    have e1 : sgL t (s.1, 0) = t.getD s.1.toNat rqZ0 8 := by unfold sgL; simp
    have e2 : sgL t (s.1, 1) = - t.getD s.1.toNat rqZ0 8 := by unfold sgL; simp
    rcases hp s.1 with h | ⟨h0, _, h | h⟩
    · exact absurd h hne
    · rw [h]
      simp only [List.map_cons, List.map_nil, List.sum_cons, List.sum_nil, e1]
      refine ⟨by omega, fun hh => by omega, fun hR => ?_⟩
      rcases hR s.1 with h3 | ⟨_, h3⟩
      · exact absurd h3 hne
      · rw [h] at h3
        simp [pd] at h3
    · rw [h]
      simp only [pd, List.map_cons, List.map_nil, List.sum_cons, List.sum_nil, e1, e2]
      refine ⟨by omega, fun hh r => ?_, fun hR => ?_⟩
      · by_cases e : r = s.1
        · subst e
          exact .inr ⟨h0, h⟩
        · have := i2.1 (by omega) r
          rwa [sub_woP, if_neg e] at this
      · have := i2.2 (hrest hR)
        omega
theorem fsB_iff (x y cp st en : Int) (l : List (Int × Int)) (t : List Rq) : fsB x y cp st en l t = true ↔ RightP x y cp st en l t := by
  unfold fsB RightP
  simp only [Bool.and_eq_true, decide_eq_true_eq, List.all_eq_true, beq_iff_eq, and_assoc]
  refine and_congr_right fun hv => and_congr_right fun ht => and_congr_right fun hl => ?_
  obtain ⟨hc1, hc2, _⟩ := vehCode_zero hv
  have hld : PreT t.length l → ∀ s ∈ l, (s.2 = 0 ∨ s.2 = 1) ∧ 1 ≤ t.getD s.1.toNat rqZ0 8 := fun hp s hs => by
    have h1 := pre_mem hp hs
    have hn : s.1.toNat < t.length := by omega
    refine ⟨h1.2.2, ?_⟩
    rw [getD_at t hn]
    exact (rqE_all (ht _ (List.getElem_mem hn))).2.2.1.1
  have hon : onK l t l.length = (l.map (sgL t)).sum := by unfold onK; rw [List.take_length]
  constructor
  · intro h
    cases hf : fsRun cp t l (fun _ => none) x y st 0 with
    | none => rw [hf] at h; simp [fsEnd] at h
    | some R =>
      obtain ⟨ax, ay, now, bd⟩ := R
      rw [hf] at h
      have h := of_decide_eq_true (show decide (¬ bd > 0 ∧ ¬ now + dsP ax ay x y > en) = true from h)
      obtain ⟨h1, h2, L, h3⟩ := (fsRun_iff cp ht l _ x y st 0 ax ay now bd (fun _ => Int.le_refl _)).1 hf
      have hp := (stOk_iff _ _).1 h1
      obtain ⟨e, h4⟩ := (ldRun_iff cp t l 0 bd (fun s hs => ⟨(hld hp s hs).1, by have := (hld hp s hs).2; omega⟩) (by omega)).1 h2
      have hR := (pre_sum t.length t l.length l (Nat.le_refl _) hp (fun s hs => (hld hp s hs).2)).2.1 (by omega)
      exact ⟨hR, fun s hs => (pre_mem hp hs).2.1, fun k hk => by have := h4 k hk; omega, L, ax, ay, now, h3, by omega⟩
  · rintro ⟨hR, hT, hk, L, ax, ay, now, h3, h4⟩
    have hp := pre_of_rou hR hT
    have hS := pre_sum t.length t l.length l (Nat.le_refl _) hp (fun s hs => (hld hp s hs).2)
    have hz := hS.2.2 hR
    have h2 := (ldRun_iff cp t l 0 ((l.map (sgL t)).sum) (fun s hs => ⟨(hld hp s hs).1, by have := (hld hp s hs).2; omega⟩) (by omega)).2 ⟨by omega, fun k hk' => by have := hk k hk'; omega⟩
    rw [(fsRun_iff cp ht l _ x y st 0 ax ay now _ (fun _ => Int.le_refl _)).2 ⟨(stOk_iff _ _).2 hp, h2, L, h3⟩]
    exact decide_eq_true ⟨by omega, by omega⟩
end Go.Proofs.Ytpbmeeogledmdae
