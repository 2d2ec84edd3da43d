/-
  Layer 9: whether any times serve a route: the program's feas (part, wrong, stands, loads, goes).
-/
import Derived.Test.YtdmnoogppmckaaaGreatMi
import Derived.Test.YtdmnoogppmckaaaGreatTmT
import Derived.Test.YtdmnoogppmckaaaGreatAg
import Derived.Test.YtdmnoogppmckaaaGreatDr
namespace Go.Proofs.YtdmnoogppmckaaaGreat
open Go.RowKit

theorem Blk.newAt {w : World} {g : Nat} (hg : g = w.heap.size) (C : Array Value) (t : TypeId) : Blk (w.alloc (.cells C t)) g C t := by
  subst hg
  exact Blk.new w C t

theorem set22 {W : World} {a b : Nat} {u1 u2 u3 u4 v1 v2 v3 v4 : Value} {t1 t2 : TypeId} (h1 : Blk W a #[u1, u2] t1) (h2 : Blk W b #[u3, u4] t2) (hab : a ≠ b) :
    Blk ((((W.setCell ⟨a, 0, none⟩ v1).setCell ⟨a, 1, none⟩ v2).setCell ⟨b, 0, none⟩ v3).setCell ⟨b, 1, none⟩ v4).drew a #[v1, v2] t1 ∧
    Blk ((((W.setCell ⟨a, 0, none⟩ v1).setCell ⟨a, 1, none⟩ v2).setCell ⟨b, 0, none⟩ v3).setCell ⟨b, 1, none⟩ v4).drew b #[v3, v4] t2 :=
  ⟨((((h1.set 0 v1).set 1 v2).other hab v3).other hab v4).drew, ((((h2.other (fun e => hab e.symm) v1).other (fun e => hab e.symm) v2).set 0 v3).set 1 v4).drew⟩

set_option maxHeartbeats 1000000 in
set_option maxRecDepth 100000 in
theorem part_calls (q : Rq) (r k : Int) (w : World) :
    Calls Tryz.prog 121 #[.agg #[.int .i64 r, .int .i64 k], .agg (rqV q).toArray] w fun e w' => e = .returned (.tuple #[.agg #[.int .i64 (if k = 0 then q 0 else q 2), .int .i64 (if k = 0 then q 1 else q 3)], .agg #[.int .i64 (if k = 0 then q 4 else q 6), .int .i64 (if k = 0 then q 5 else q 7)]]) ∧ Below w.heap.size w w' := by
  generalize hx0 : (if k = 0 then q 0 else q 2) = x0
  generalize hx1 : (if k = 0 then q 1 else q 3) = x1
  generalize hx2 : (if k = 0 then q 4 else q 6) = x2
  generalize hx3 : (if k = 0 then q 5 else q 7) = x3
  replace hx0 := Lib.hid hx0
  replace hx1 := Lib.hid hx1
  replace hx2 := Lib.hid hx2
  replace hx3 := Lib.hid hx3
  go_enter Tryz.func121, Tryz.ntmps121
  go_upto_region 1 with (first | (refine wpList_store_new rfl 72 _ _ rfl rfl rfl _ (rqV q).toArray _ rfl rfl (rqV_one _) (by kernel_rfl) ?_))
  refine wp_world' (fun wx => Blk wx w.heap.size #[.int .i64 r, .int .i64 k] 75 ∧ Blk wx (w.heap.size + 1) (rqV q).toArray 72 ∧ Blk wx (w.heap.size + 1 + 1) #[.int .i64 0, .int .i64 0] 51 ∧ Blk wx (w.heap.size + 1 + 1 + 1) #[.int .i64 0, .int .i64 0] 70 ∧ Below w.heap.size w wx)
    ⟨(((Blk.new w _ _).alloc _).alloc _).alloc _, ((Blk.new' w _ _ _).alloc _).alloc _, (Blk.newAt (by simp) _ _).alloc _, Blk.newAt (by simp) _ _, ((((Below.refl _ _).alloc (Nat.le_refl _) _).alloc (by simp) _).alloc (by simp; omega) _).alloc (by simp; omega) _⟩ ?_
  rintro w1 ⟨hS, hQ, hP, hW, hb⟩
  have k1 : w1.cell? ⟨w.heap.size, 1, none⟩ = some (.int .i64 k) := hS.cell (i := 1) rfl
  clear hS
  go_upto_if 8 with fail
  by_cases hk : k = 0
  · subst hk
    obtain rfl : q 0 = x0 := (if_pos rfl).symm.trans hx0.out
    obtain rfl : q 1 = x1 := (if_pos rfl).symm.trans hx1.out
    obtain rfl : q 4 = x2 := (if_pos rfl).symm.trans hx2.out
    obtain rfl : q 5 = x3 := (if_pos rfl).symm.trans hx3.out
    clear hx0 hx1 hx2 hx3
    have c0 : w1.cell? ⟨w.heap.size + 1, 0, none⟩ = some (.int .i64 (q 0)) := hQ.cell (i := 0) rfl
    have c1 : w1.cell? ⟨w.heap.size + 1, 1, none⟩ = some (.int .i64 (q 1)) := hQ.cell (i := 1) rfl
    have c4 : w1.cell? ⟨w.heap.size + 1, 4, none⟩ = some (.int .i64 (q 4)) := hQ.cell (i := 4) rfl
    have c5 : w1.cell? ⟨w.heap.size + 1, 5, none⟩ = some (.int .i64 (q 5)) := hQ.cell (i := 5) rfl
    have p0 : w1.cell? ⟨w.heap.size + 1 + 1, 0, none⟩ = some (.int .i64 0) := hP.cell (i := 0) rfl
    have p1 : w1.cell? ⟨w.heap.size + 1 + 1, 1, none⟩ = some (.int .i64 0) := hP.cell (i := 1) rfl
    have p2 : w1.cell? ⟨w.heap.size + 1 + 1 + 1, 0, none⟩ = some (.int .i64 0) := hW.cell (i := 0) rfl
    have p3 : w1.cell? ⟨w.heap.size + 1 + 1 + 1, 1, none⟩ = some (.int .i64 0) := hW.cell (i := 1) rfl
    have f2 := hP.froz 0
    have f2' := hP.froz 1
    have f3 := hW.froz 0
    have f3' := hW.froz 1
    have HP := Lib.hid hP
    have HW := Lib.hid hW
    have Hb := Lib.hid hb
    clear hP hW hb hQ
    go_wp2_with fail
    go_region
    go_wp2_with fail
    have hz := set22 (v1 := .int .i64 (q 0)) (v2 := .int .i64 (q 1)) (v3 := .int .i64 (q 4)) (v4 := .int .i64 (q 5)) HP.out HW.out (by omega)
    exact bodyPost_ret (res_cell2 Tryz.results121 rfl rfl (run_load_row' _ _ 51 _ _ _ hz.1 Tryz.underlying51 rfl (by kernel_rfl)) (run_load_row' _ _ 70 _ _ _ hz.2 Tryz.underlying70 rfl (by kernel_rfl))) rfl ⟨rfl, ((((Hb.out.setCell (by show w.heap.size ≤ w.heap.size + 1 + 1; omega) _).setCell (by show w.heap.size ≤ w.heap.size + 1 + 1; omega) _).setCell (by show w.heap.size ≤ w.heap.size + 1 + 1 + 1; omega) _).setCell (by show w.heap.size ≤ w.heap.size + 1 + 1 + 1; omega) _).drew⟩
  · obtain rfl : q 2 = x0 := (if_neg hk).symm.trans hx0.out
    obtain rfl : q 3 = x1 := (if_neg hk).symm.trans hx1.out
    obtain rfl : q 6 = x2 := (if_neg hk).symm.trans hx2.out
    obtain rfl : q 7 = x3 := (if_neg hk).symm.trans hx3.out
    clear hx0 hx1 hx2 hx3
    have e0 : (k == 0) = false := beq_eq_false_iff_ne.2 hk
    have c2 : w1.cell? ⟨w.heap.size + 1, 2, none⟩ = some (.int .i64 (q 2)) := hQ.cell (i := 2) rfl
    have c3 : w1.cell? ⟨w.heap.size + 1, 3, none⟩ = some (.int .i64 (q 3)) := hQ.cell (i := 3) rfl
    have c6 : w1.cell? ⟨w.heap.size + 1, 6, none⟩ = some (.int .i64 (q 6)) := hQ.cell (i := 6) rfl
    have c7 : w1.cell? ⟨w.heap.size + 1, 7, none⟩ = some (.int .i64 (q 7)) := hQ.cell (i := 7) rfl
    have p0 : w1.cell? ⟨w.heap.size + 1 + 1, 0, none⟩ = some (.int .i64 0) := hP.cell (i := 0) rfl
    have p1 : w1.cell? ⟨w.heap.size + 1 + 1, 1, none⟩ = some (.int .i64 0) := hP.cell (i := 1) rfl
    have p2 : w1.cell? ⟨w.heap.size + 1 + 1 + 1, 0, none⟩ = some (.int .i64 0) := hW.cell (i := 0) rfl
    have p3 : w1.cell? ⟨w.heap.size + 1 + 1 + 1, 1, none⟩ = some (.int .i64 0) := hW.cell (i := 1) rfl
    have f2 := hP.froz 0
    have f2' := hP.froz 1
    have f3 := hW.froz 0
    have f3' := hW.froz 1
    have HP := Lib.hid hP
    have HW := Lib.hid hW
    have Hb := Lib.hid hb
    clear hP hW hb hQ
    go_wp2_with fail
    go_region
    go_wp2_with fail
    have hz := set22 (v1 := .int .i64 (q 2)) (v2 := .int .i64 (q 3)) (v3 := .int .i64 (q 6)) (v4 := .int .i64 (q 7)) HP.out HW.out (by omega)
    exact bodyPost_ret (res_cell2 Tryz.results121 rfl rfl (run_load_row' _ _ 51 _ _ _ hz.1 Tryz.underlying51 rfl (by kernel_rfl)) (run_load_row' _ _ 70 _ _ _ hz.2 Tryz.underlying70 rfl (by kernel_rfl))) rfl ⟨rfl, ((((Hb.out.setCell (by show w.heap.size ≤ w.heap.size + 1 + 1; omega) _).setCell (by show w.heap.size ≤ w.heap.size + 1 + 1; omega) _).setCell (by show w.heap.size ≤ w.heap.size + 1 + 1 + 1; omega) _).setCell (by show w.heap.size ≤ w.heap.size + 1 + 1 + 1; omega) _).drew⟩

set_option maxHeartbeats 400000 in
set_option maxRecDepth 100000 in
theorem wrong_calls (e p i : Int) (w : World) :
    Calls Tryz.prog 91 #[.int .i64 e, .int .i64 p, .int .i64 i] w fun E w' => (∃ b, E = .returned (.iface 196 (.pointer (some ⟨b, 0, none⟩)))) ∧ Below w.heap.size w w' := by
  go_enter Tryz.func91, Tryz.ntmps91
  go_wp2_with fail
  go_ret
  exact ⟨⟨_, rfl⟩, (Below.refl _ _).alloc (Nat.le_refl _) _⟩

/-- how a route is walked: the vehicle, the requests, what became of each, where, when, how much is on board -/
def wkR (x y cp st en : Int) (p' : Option Addr) (n c' mb : Nat) (ax ay now bd : Int) : Array Value :=
  #[.int .i64 x, .int .i64 y, .int .i64 cp, .int .i64 st, .int .i64 en, .slice p' n c', .map (some mb), .int .i64 ax, .int .i64 ay, .int .i64 now, .int .i64 bd]
abbrev MapI (w : World) (b n : Nat) (m : Int → Option Int) : Prop := MapV Tryz.prog 3 3 w b n m
def stB (n : Nat) (m : Int → Option Int) (s : Int × Int) : Bool := decide (¬ s.1 < 0 ∧ ¬ s.1 ≥ n ∧ ¬ s.2 ≥ 2 ∧ (m s.1).getD 0 = s.2)
def stM (n : Nat) (m : Int → Option Int) (s : Int × Int) : Int → Option Int := if stB n m s then fun j => if j = s.1 then some (s.2 + 1) else m j else m

theorem run_lookV {P : Program} {ρ : Operand → Value} {o : Oper} {w : World} {x y : Operand} {t : TypeId} {b : Nat} {i : Int} {v : Value} (ho : o.op = .lookup t x y false) (hx : ρ x = .map (some b)) (hy : ρ y = .int .i64 i)
    (hrun : (Instr.lookup t (.map (some b)) (.int .i64 i) false).run P w = .ok v w) : (execOp ρ o).run P w = .ok (.value v) w := by
  simp [execOp, ho, hx, hy, hrun, Result.andThen]
theorem run_mapU {P : Program} {ρ : Operand → Value} {o : Oper} {w w' : World} {x y z : Operand} {t : TypeId} {b : Nat} {i v : Int} (ho : o.op = .mapUpdate t x y z) (hx : ρ x = .map (some b)) (hy : ρ y = .int .i64 i) (hz : ρ z = .int .i64 v)
    (hrun : (Instr.mapUpdate t (.map (some b)) (.int .i64 i) (.int .i64 v)).run P w = .ok () w') : (execOp ρ o).run P w = .ok .skip w' := by
  simp [execOp, ho, hx, hy, hz, hrun, Result.andThen]
theorem MapI.at {w : World} {b n : Nat} {m : Int → Option Int} (h : MapI w b n m) {i : Int} (hi : wf64 i) : (Instr.lookup 77 (.map (some b)) (.int .i64 i) false).run Tryz.prog w = .ok (.int .i64 ((m i).getD 0)) w :=
  MapV.get h Tryz.underlying3 Tryz.underlying3 Tryz.underlying77 (by kernel_rfl) hi

set_option maxHeartbeats 2000000 in
set_option maxRecDepth 100000 in
theorem stands_calls (g mb N : Nat) (x y cp st en : Int) (p' : Option Addr) (c' T : Nat) (m : Int → Option Int) (ax ay now bd r k : Int) (w : World) (hB : Blk w g (wkR x y cp st en p' T c' mb ax ay now bd) 163) (hM : MapI w mb N m) (hN : N < maxLen) (hT : T ≤ 140737488351232) (hm : ∀ j, 0 ≤ (m j).getD 0) :
    Calls Tryz.prog 92 #[.pointer (some ⟨g, 0, none⟩), .agg #[.int .i64 r, .int .i64 k]] w fun e w' => e = .returned (.int .i64 (if stB T m (r, k) then 0 else 8)) ∧ MapI w' mb (N + 1) (stM T m (r, k)) ∧ Mod (· = mb) w w' := by
  have hE : stB T m (r, k) = decide (¬ r < 0 ∧ ¬ r ≥ T ∧ ¬ k ≥ 2 ∧ (m r).getD 0 = k) := rfl
  have hP : stM T m (r, k) = if stB T m (r, k) then fun j => if j = r then some (k + 1) else m j else m := rfl
  generalize stM T m (r, k) = m' at *
  generalize stB T m (r, k) = E at *
  have hno : Hid (E = false → m' = m) := Lib.hid (fun h => by rw [hP, h]; rfl)
  have hyes : Hid (E = true → m' = fun j => if j = r then some (k + 1) else m j) := Lib.hid (fun h => by rw [hP, h]; rfl)
  clear hP
  replace hE := Lib.hid hE
  replace hm := Lib.hid hm
  go_enter Tryz.func92, Tryz.ntmps92
  go_upto_region 1 with fail
  refine wp_world' (fun wx => Blk wx w.heap.size #[.int .i64 r, .int .i64 k] 75 ∧ Blk wx g (wkR x y cp st en p' T c' mb ax ay now bd) 163 ∧ MapI wx mb N m ∧ Mod (· = mb) w wx)
    ⟨Blk.new w _ _, hB.alloc _, hM.mod ((Mod.refl (fun _ => False) _).alloc _) (fun h => h), (Mod.refl _ _).alloc _⟩ ?_
  rintro w1 ⟨hS, hW, hM1, hmd⟩
  clear hB hM
  have s0 : w1.cell? ⟨w.heap.size, 0, none⟩ = some (.int .i64 r) := hS.cell (i := 0) rfl
  have s1 : w1.cell? ⟨w.heap.size, 1, none⟩ = some (.int .i64 k) := hS.cell (i := 1) rfl
  have k5 : w1.cell? ⟨g, 5, none⟩ = some (.slice p' T c') := hW.cell (i := 5) rfl
  have k6 : w1.cell? ⟨g, 6, none⟩ = some (.map (some mb)) := hW.cell (i := 6) rfl
  have HM := Lib.hid hM1
  have HW := Lib.hid hW
  have Hmd := Lib.hid hmd
  clear hM1 hW hmd hS
  by_cases c0 : r < 0
  · have e8 : E = false := by
      rw [hE.out]
      exact decide_eq_false (by omega)
    subst e8
    obtain rfl := hno.out rfl
    clear hE hno hyes
    refine wp_region_quiet_lit (by kernel_rfl) (by kernel_rfl) ?_
    repeat (go_big_quiet_step (fail))
    refine wpQuiet_nil ?_
    rintro _ ⟨z, rfl⟩
    go_wp2_with fail
    go_ret
    exact ⟨rfl, (HM.out.mono (Nat.le_succ _)).mod ((Mod.refl (fun _ => False) _).drewN _) (fun h => h), Hmd.out.drewN _⟩
  by_cases c1 : r ≥ (T : Int)
  · have e8 : E = false := by
      rw [hE.out]
      exact decide_eq_false (by omega)
    subst e8
    obtain rfl := hno.out rfl
    clear hE hno hyes
    refine wp_region_quiet_lit (by kernel_rfl) (by kernel_rfl) ?_
    repeat (go_big_quiet_step (fail))
    refine wpQuiet_nil ?_
    rintro _ ⟨z, rfl⟩
    go_wp2_with fail
    go_ret
    exact ⟨rfl, (HM.out.mono (Nat.le_succ _)).mod ((Mod.refl (fun _ => False) _).drewN _) (fun h => h), Hmd.out.drewN _⟩
  by_cases c2 : k ≥ 2
  · have e8 : E = false := by
      rw [hE.out]
      exact decide_eq_false (by omega)
    subst e8
    obtain rfl := hno.out rfl
    clear hE hno hyes
    refine wp_region_quiet_lit (by kernel_rfl) (by kernel_rfl) ?_
    repeat (go_big_quiet_step (fail))
    refine wpQuiet_nil ?_
    rintro _ ⟨z, rfl⟩
    go_wp2_with fail
    go_ret
    exact ⟨rfl, (HM.out.mono (Nat.le_succ _)).mod ((Mod.refl (fun _ => False) _).drewN _) (fun h => h), Hmd.out.drewN _⟩
  have hr64 : wf64 r := ⟨by omega, by omega⟩
  have hv0 := hm.out r
  obtain ⟨v, hv⟩ : ∃ v, (m r).getD 0 = v := ⟨_, rfl⟩
  rw [hv] at hv0
  have hlk : Hid (∀ W, MapI W mb N m → (Instr.lookup 77 (.map (some mb)) (.int .i64 r) false).run Tryz.prog W = .ok (.int .i64 v) W) := Lib.hid (fun W h => by rw [← hv]; exact MapI.at h hr64)
  have hE2 : Hid (E = decide (v = k)) := Lib.hid (by
    rw [hE.out, hv]
    exact decide_eq_decide.2 ⟨fun h => h.2.2.2, fun h => ⟨c0, c1, c2, h⟩⟩)
  replace hv := Lib.hid hv
  clear hE
  by_cases c3 : v = k
  · subst c3
    obtain rfl : E = true := by rw [hE2.out]; exact decide_eq_true rfl
    obtain rfl := hyes.out rfl
    clear hE2 hno hyes
    refine wp_region_quiet_lit (by kernel_rfl) (by kernel_rfl) ?_
    iterate 25 (go_big_quiet_step (fail))
    refine wpQuiet_v (by kernel_rfl) (.int .i64 v) (by rintro _ ⟨z, rfl⟩; exact run_lookV rfl rfl rfl (hlk.out _ (HM.out.mod ((Mod.refl (fun _ => False) _).drewN _) (fun h => h)))) ?_
    simp only [Act.put, List.setIfInBounds_toArray, List.set_cons_succ, List.set_cons_zero]
    repeat (go_big_quiet_step (fail))
    refine wpQuiet_nil ?_
    rintro _ ⟨z, rfl⟩
    replace HM := Lib.hid (HM.out.mod ((Mod.refl (fun _ => False) _).drewN z) (fun h => h))
    replace HW := Lib.hid (HW.out.mod ((Mod.refl (fun _ => False) _).drewN z) (fun h => h))
    replace Hmd := Lib.hid (Hmd.out.drewN z)
    replace s0 : (w1.drewN z).cell? ⟨w.heap.size, 0, none⟩ = some (.int .i64 r) := s0
    clear s1 k5 k6
    generalize w1.drewN z = w2 at *
    have K0 : ∀ x : Later (fun _ => False) w2, x.val.cell? ⟨w.heap.size, 0, none⟩ = some (.int .i64 r) := fun x => x.cell s0 (fun h => h)
    have K6 : ∀ x : Later (fun _ => False) w2, x.val.cell? ⟨g, 6, none⟩ = some (.map (some mb)) := fun x => x.cell (HW.out.cell (i := 6) rfl) (fun h => h)
    clear s0
    go_wp2_with fail
    refine wp_region_then (C := fun w' => ∃ x : Later (fun _ => False) w2, w' = x.val) 8 (by kernel_rfl) (by kernel_rfl) ⟨⟨_, (Mod.refl _ _).drew⟩, rfl⟩ ?_
    simp only [List.take_succ_cons, List.take_zero]
    iterate 6 (go_big_quiet_step (fail))
    refine wpQuiet_v (by kernel_rfl) (.int .i64 v) (by rintro _ ⟨x, rfl⟩; exact run_lookV rfl rfl rfl (hlk.out _ (HM.out.mod x.mod (fun h => h)))) ?_
    simp only [Act.put, List.setIfInBounds_toArray, List.set_cons_succ, List.set_cons_zero]
    have hs1 : IntKind.i64.wrap (v + 1) = v + 1 := IntWalk.i64_in _ (by omega)
    repeat (go_big_quiet_step (fail))
    refine wpQuiet_nil ?_
    rintro _ ⟨x, rfl⟩
    obtain ⟨w3, hrun, hM3, hmd3⟩ := MapV.update (HM.out.mod x.mod (fun h => h)) Tryz.underlying3 Tryz.underlying3 Tryz.underlying77 hN (i := r) (v := v + 1) hr64 ⟨by omega, by omega⟩
    have hmd4 := (Hmd.out.trans (x.mod.mono fun _ _ h => h.elim)).trans hmd3
    refine wpAny_ready (rs := [8]) (by kernel_rfl) (by simp) ?_
    refine AllReady.cons rfl (fun K hK => ?_) AllReady.nil
    rw [if_pos (by kernel_rfl)]
    unfold Oper.wp
    rw [run_mapU rfl rfl rfl rfl hrun]
    refine hK _ _ ?_
    clear hK K
    refine wpAny_done (by kernel_rfl) ?_ _
    go_wp2_with fail
    go_ret
    exact ⟨rfl, hM3, hmd4⟩
  · obtain rfl : E = false := by rw [hE2.out]; exact decide_eq_false c3
    obtain rfl := hno.out rfl
    clear hE2 hno hyes
    refine wp_region_quiet_lit (by kernel_rfl) (by kernel_rfl) ?_
    iterate 25 (go_big_quiet_step (fail))
    refine wpQuiet_v (by kernel_rfl) (.int .i64 v) (by rintro _ ⟨z, rfl⟩; exact run_lookV rfl rfl rfl (hlk.out _ (HM.out.mod ((Mod.refl (fun _ => False) _).drewN _) (fun h => h)))) ?_
    simp only [Act.put, List.setIfInBounds_toArray, List.set_cons_succ, List.set_cons_zero]
    repeat (go_big_quiet_step (fail))
    refine wpQuiet_nil ?_
    rintro _ ⟨z, rfl⟩
    go_wp2_with fail
    go_ret
    exact ⟨rfl, (HM.out.mono (Nat.le_succ _)).mod ((Mod.refl (fun _ => False) _).drewN _) (fun h => h), Hmd.out.drewN _⟩

def ldE (cp k bd q : Int) : Int := if k = 1 then 0 else if bd + q > cp then 10 else 0
def ldB (k bd q : Int) : Int := if k = 1 then bd - q else bd + q

set_option maxHeartbeats 2000000 in
set_option maxRecDepth 100000 in
theorem loads_calls (g mb : Nat) (x y cp st en : Int) (p' : Option Addr) (c' : Nat) (t : List Rq) (ax ay now bd : Int) (n : Nat) (k : Int) (w : World) (hB : Blk w g (wkR x y cp st en p' t.length c' mb ax ay now bd) 163) (hT : Els w p' 10 (t.map rqV)) (hn : n < t.length)
    (hbd : -1000000 ≤ bd ∧ bd ≤ 1000000) (hq : 0 ≤ t[n] 8 ∧ t[n] 8 ≤ 1000) :
    Calls Tryz.prog 93 #[.pointer (some ⟨g, 0, none⟩), .agg #[.int .i64 (n : Int), .int .i64 k]] w fun e w' => e = .returned (.int .i64 (ldE cp k bd (t[n] 8))) ∧ Blk w' g (wkR x y cp st en p' t.length c' mb ax ay now (ldB k bd (t[n] 8))) 163 ∧ Mod (· = g) w w' := by
  obtain ⟨a, rfl⟩ := hT.some_of (k := n) (by simpa using hn)
  have hl := hT.one (a := a) rfl (k := n) (by simpa using hn) 8 (.int .i64 (t[n] 8)) (by simp [rqV])
  have hbig : t.length ≤ 140737488351232 := by simpa using hT.big
  clear hT
  have hgs := hB.lt
  have hE : ldE cp k bd (t[n] 8) = if k = 1 then 0 else if bd + t[n] 8 > cp then 10 else 0 := rfl
  have hL : ldB k bd (t[n] 8) = if k = 1 then bd - t[n] 8 else bd + t[n] 8 := rfl
  generalize ldE cp k bd (t[n] 8) = E at *
  generalize ldB k bd (t[n] 8) = L at *
  generalize t[n] 8 = q at *
  generalize t.length = T at *
  replace hE := Lib.hid hE
  replace hL := Lib.hid hL
  go_enter Tryz.func93, Tryz.ntmps93
  go_upto_region 1 with fail
  refine wp_world' (fun wx => Blk wx w.heap.size #[.int .i64 (n : Int), .int .i64 k] 75 ∧ Blk wx g (wkR x y cp st en (some a) T c' mb ax ay now bd) 163 ∧ wx.cell? ((a.add (n * 10)).add 8) = some (.int .i64 q) ∧ Mod (· = g) w wx)
    ⟨Blk.new w _ _, hB.alloc _, ((Mod.refl (fun _ => False) w).alloc _).cell_of (fun h => h) hl, (Mod.refl _ _).alloc _⟩ ?_
  rintro w1 ⟨hS, hW, hl1, hmd⟩
  clear hB hl
  have s1 : w1.cell? ⟨w.heap.size, 1, none⟩ = some (.int .i64 k) := hS.cell (i := 1) rfl
  have K0 : ∀ x : Later (fun _ => False) w1, x.val.cell? ⟨w.heap.size, 0, none⟩ = some (.int .i64 (n : Int)) := fun x => x.cell (hS.cell (i := 0) rfl) (fun h => h)
  have K5 : ∀ x : Later (fun _ => False) w1, x.val.cell? ⟨g, 5, none⟩ = some (.slice (some a) T c') := fun x => x.cell (hW.cell (i := 5) rfl) (fun h => h)
  have KB : ∀ x : Later (fun _ => False) w1, x.val.cell? ⟨g, 10, none⟩ = some (.int .i64 bd) := fun x => x.cell (hW.cell (i := 10) rfl) (fun h => h)
  have KL : ∀ x : Later (fun _ => False) w1, x.val.cell? ((a.add (n * 10)).add 8) = some (.int .i64 q) := fun x => x.cell hl1 (fun h => h)
  have HW := Lib.hid hW
  have Hmd := Lib.hid hmd
  have hs1 : IntKind.i64.wrap (bd - q) = bd - q := IntWalk.i64_in _ (by omega)
  have hs2 : IntKind.i64.wrap (bd + q) = bd + q := IntWalk.i64_in _ (by omega)
  clear hS hW hmd hl1
  by_cases c0 : k = 1
  · subst c0
    obtain rfl : E = 0 := by rw [hE.out]; exact if_pos rfl
    obtain rfl : L = bd - q := by rw [hL.out]; exact if_pos rfl
    clear hE hL
    go_wp2_with fail
    refine wp_region_then (C := fun w' => ∃ x : Later (fun _ => False) w1, w' = x.val) 16 (by kernel_rfl) (by kernel_rfl) ⟨⟨_, (Mod.refl _ _).drew⟩, rfl⟩ ?_
    simp only [List.take_succ_cons, List.take_zero]
    repeat (go_big_quiet_step (fail))
    refine wpQuiet_v rfl (.int .i64 q) (by rintro _ ⟨x, rfl⟩; exact run_load_v rfl rfl (run_i64 (KL x))) ?_
    simp only [Act.put, List.setIfInBounds_toArray, List.set_cons_succ, List.set_cons_zero]
    repeat (go_big_quiet_step (fail))
    refine wpQuiet_nil ?_
    rintro _ ⟨x, rfl⟩
    have c10 := (HW.out.mod x.mod (fun h => h)).cell (i := 10) (v := .int .i64 bd) rfl
    have f10 := (HW.out.mod x.mod (fun h => h)).froz 10
    refine wpAny_ready (rs := [16]) (by kernel_rfl) (by simp) ?_
    refine AllReady.cons rfl (fun K hK => ?_) AllReady.nil
    go_simp
    refine hK _ _ ?_
    clear hK K
    refine wpAny_done (by kernel_rfl) ?_ _
    have HW2 := Lib.hid ((HW.out.mod x.mod (fun h => h)).set 10 (.int .i64 (bd - q)))
    have Hmd2 := Lib.hid ((Hmd.out.trans (x.mod.mono fun _ _ h => h.elim)).setCell (p := ⟨g, 10, none⟩) (fun _ => rfl) (.int .i64 (bd - q)))
    clear HW Hmd K0 K5 KB KL c10 f10
    go_wp2_with fail
    go_ret
    exact ⟨rfl, HW2.out, Hmd2.out⟩
  · obtain rfl : L = bd + q := by rw [hL.out]; exact if_neg c0
    have hE2 : Hid (E = if bd + q > cp then 10 else 0) := Lib.hid (by rw [hE.out]; exact if_neg c0)
    clear hE hL
    have d0 : (k == 1) = false := beq_eq_false_iff_ne.2 c0
    go_wp2_with fail
    refine wp_region_then (C := fun w' => ∃ x : Later (fun _ => False) w1, w' = x.val) 16 (by kernel_rfl) (by kernel_rfl) ⟨⟨_, (Mod.refl _ _).drew⟩, rfl⟩ ?_
    simp only [List.take_succ_cons, List.take_zero]
    repeat (go_big_quiet_step (fail))
    refine wpQuiet_v rfl (.int .i64 q) (by rintro _ ⟨x, rfl⟩; exact run_load_v rfl rfl (run_i64 (KL x))) ?_
    simp only [Act.put, List.setIfInBounds_toArray, List.set_cons_succ, List.set_cons_zero]
    repeat (go_big_quiet_step (fail))
    refine wpQuiet_nil ?_
    rintro _ ⟨x, rfl⟩
    have c10 := (HW.out.mod x.mod (fun h => h)).cell (i := 10) (v := .int .i64 bd) rfl
    have f10 := (HW.out.mod x.mod (fun h => h)).froz 10
    refine wpAny_ready (rs := [16]) (by kernel_rfl) (by simp) ?_
    refine AllReady.cons rfl (fun K hK => ?_) AllReady.nil
    go_simp
    refine hK _ _ ?_
    clear hK K
    refine wpAny_done (by kernel_rfl) ?_ _
    have HW2 := (HW.out.mod x.mod (fun h => h)).set 10 (.int .i64 (bd + q))
    have Hmd2 := Lib.hid ((Hmd.out.trans (x.mod.mono fun _ _ h => h.elim)).setCell (p := ⟨g, 10, none⟩) (fun _ => rfl) (.int .i64 (bd + q)))
    clear HW Hmd K0 K5 KB KL c10 f10
    generalize World.setCell _ _ _ = w3 at *
    have k10 : w3.cell? ⟨g, 10, none⟩ = some (.int .i64 (bd + q)) := HW2.cell (i := 10) rfl
    have k2 : w3.cell? ⟨g, 2, none⟩ = some (.int .i64 cp) := HW2.cell (i := 2) rfl
    replace HW2 := Lib.hid HW2
    go_upto_region 5 with fail
    refine wp_region_quiet_lit (by kernel_rfl) (by kernel_rfl) ?_
    repeat (go_big_quiet_step (fail))
    refine wpQuiet_nil ?_
    rintro _ ⟨z, rfl⟩
    by_cases c1 : bd + q > cp
    · obtain rfl : E = 10 := hE2.out.trans (if_pos c1)
      go_wp2_with fail
      go_ret
      exact ⟨rfl, HW2.out.mod ((Mod.refl (fun _ => False) _).drewN z) (fun h => h), Hmd2.out.drewN z⟩
    · obtain rfl : E = 0 := hE2.out.trans (if_neg c1)
      go_wp2_with fail
      go_ret
      exact ⟨rfl, HW2.out.mod ((Mod.refl (fun _ => False) _).drewN z) (fun h => h), Hmd2.out.drewN z⟩

/-- two boxes of two sorts, made and filled in some order -/
def z2 : Array Value := #[.int .i64 0, .int .i64 0]
structure ClP (V1 V2 : Array Value) (t1 t2 : TypeId) (w : World) (x : Nat × Nat) (a0 a1 s0 s1 : Bool) (W : World) : Prop where
  m : Mod (fun _ => False) w W
  x0 : a0 = true → Blk W x.1 (bif s0 then V1 else z2) t1 ∧ w.heap.size ≤ x.1
  x1 : a1 = true → Blk W x.2 (bif s1 then V2 else z2) t2 ∧ w.heap.size ≤ x.2
  ne : a0 = true → a1 = true → x.1 ≠ x.2
section
variable {V1 V2 : Array Value} {t1 t2 : TypeId} {w W : World} {x : Nat × Nat} {a0 a1 s0 s1 : Bool}
theorem ClP.mod (h : ClP V1 V2 t1 t2 w x a0 a1 s0 s1 W) {W' : World} (hm : Mod (fun _ => False) W W') : ClP V1 V2 t1 t2 w x a0 a1 s0 s1 W' :=
  ⟨h.m.trans hm, fun e => ⟨(h.x0 e).1.mod hm (fun h => h), (h.x0 e).2⟩, fun e => ⟨(h.x1 e).1.mod hm (fun h => h), (h.x1 e).2⟩, h.ne⟩
theorem ClP.box0 (h : ClP V1 V2 t1 t2 w x false a1 false s1 W) : ClP V1 V2 t1 t2 w (W.heap.size, x.2) true a1 false s1 (W.alloc (.cells z2 t1)) :=
  ⟨h.m.alloc _, fun _ => ⟨Blk.new W _ _, h.m.size⟩, fun e => ⟨(h.x1 e).1.alloc _, (h.x1 e).2⟩, fun _ e => by have := (h.x1 e).1.lt; show W.heap.size ≠ x.2; omega⟩
theorem ClP.box1 (h : ClP V1 V2 t1 t2 w x a0 false s0 false W) : ClP V1 V2 t1 t2 w (x.1, W.heap.size) a0 true s0 false (W.alloc (.cells z2 t2)) :=
  ⟨h.m.alloc _, fun e => ⟨(h.x0 e).1.alloc _, (h.x0 e).2⟩, fun _ => ⟨Blk.new W _ _, h.m.size⟩, fun e _ => by have := (h.x0 e).1.lt; show x.1 ≠ W.heap.size; omega⟩
theorem ClP.put0 (h : ClP V1 V2 t1 t2 w x true a1 false s1 W) : ClP V1 V2 t1 t2 w x true a1 true s1 (W.setRow x.1 V1) :=
  have hx := h.x0 rfl
  have hm := mod_row W x.1 V1
  ⟨⟨h.m.os, h.m.tape, h.m.output, by simpa [World.setRow] using h.m.size, fun k hk hs => (hm.block k (Nat.lt_of_lt_of_le hk h.m.size) (by show ¬ _ = _; omega)).trans (h.m.block k hk hs)⟩,
    fun _ => ⟨setRow_heap W x.1 z2 V1 t1 (0, 0) hx.1, hx.2⟩, fun e => ⟨(h.x1 e).1.mod hm (Ne.symm (h.ne rfl e)), (h.x1 e).2⟩, h.ne⟩
theorem ClP.put1 (h : ClP V1 V2 t1 t2 w x a0 true s0 false W) : ClP V1 V2 t1 t2 w x a0 true s0 true (W.setRow x.2 V2) :=
  have hx := h.x1 rfl
  have hm := mod_row W x.2 V2
  ⟨⟨h.m.os, h.m.tape, h.m.output, by simpa [World.setRow] using h.m.size, fun k hk hs => (hm.block k (Nat.lt_of_lt_of_le hk h.m.size) (by show ¬ _ = _; omega)).trans (h.m.block k hk hs)⟩,
    fun e => ⟨(h.x0 e).1.mod hm (h.ne e rfl), (h.x0 e).2⟩, fun _ => ⟨setRow_heap W x.2 z2 V2 t2 (0, 0) hx.1, hx.2⟩, h.ne⟩
end
section
variable {ρ : Operand → Value} {o : Oper} {w : World} {x y : Operand}
theorem run_allocA (ho : o.op = .alloc 51) : (execOp ρ o).run Tryz.prog w = .ok (.value (.pointer (some ⟨w.heap.size, 0, none⟩))) (w.alloc (.cells z2 51)) := by
  unfold execOp
  simp only [ho]
  kernel_rfl
theorem run_allocB (ho : o.op = .alloc 70) : (execOp ρ o).run Tryz.prog w = .ok (.value (.pointer (some ⟨w.heap.size, 0, none⟩))) (w.alloc (.cells z2 70)) := by
  unfold execOp
  simp only [ho]
  kernel_rfl
theorem run_ixRq {a : Addr} {n c k : Nat} (ho : o.op = .indexAddr 23 x y) (hx : ρ x = .slice (some a) n c) (hy : ρ y = .int .i64 k) (hk : k < n) : (execOp ρ o).run Tryz.prog w = .ok (.value (.pointer (some (a.add (k * 10))))) w := by
  have h0 : (0 : Int) ≤ (k : Int) := by omega
  have h1 : (k : Int) < (n : Int) := by omega
  have h2 : ((k : Int)).toNat = k := by omega
  unfold execOp
  simp only [ho, hx, hy]
  go_simp
theorem run_callPt {u v : Value} (ho : o.op = .call { callee := .value (.func 121), args := #[x, y], argTypes := #[75, 72] }) (hx : ρ x = u) (hy : ρ y = v)
    (hf : ρ (.func 121) = .func (.func 121) #[] #[] := by rfl) : (execOp ρ o).run Tryz.prog w = .ok (.enter 121 #[u, v]) w := by
  unfold execOp
  simp only [ho]
  go_simp
theorem run_maxD {m a b : Int} (hm : m = if a < b then b else a) (ho : o.op = .call { callee := .builtin .max, args := #[x, y], argTypes := #[3, 3] }) (hx : ρ x = .int .i64 a) (hy : ρ y = .int .i64 b) :
    (execOp ρ o).run Tryz.prog w = .ok (.value (.int .i64 m)) w := by
  subst hm
  unfold execOp
  simp only [ho]
  go_simp
theorem run_fldA {a : Addr} (ho : o.op = .fieldAddr 72 x 5) (hx : ρ x = .pointer (some a)) : (execOp ρ o).run Tryz.prog w = .ok (.value (.pointer (some (a.add 9)))) w := by
  unfold execOp
  simp only [ho, hx]
  go_simp
theorem run_addD {m n : Int} (hb : -9223372036854775808 ≤ m + n ∧ m + n ≤ 9223372036854775807) (ho : o.op = .binOp .add 3 x y 3) (hx : ρ x = .int .i64 m) (hy : ρ y = .int .i64 n) : (execOp ρ o).run Tryz.prog w = .ok (.value (.int .i64 (m + n))) w := by
  have h1 : IntKind.i64.wrap (m + n) = m + n := IntWalk.i64_in _ (by omega)
  unfold execOp
  simp only [ho, hx, hy]
  go_simp
theorem run_storeI {p : Addr} {n : Int} {u : Value} (ho : o.op = .store 3 x y) (hx : ρ x = .pointer (some p)) (hy : ρ y = .int .i64 n) (hc : w.cell? p = some u) (hf : w.frozen? p = false) :
    (execOp ρ o).run Tryz.prog w = .ok .skip (w.setCell p (.int .i64 n)) := by
  unfold execOp
  simp only [ho, hx, hy]
  go_simp
theorem run_ext {i : Nat} {vs : Array Value} {v : Value} (ho : o.op = .extract x i) (hx : ρ x = .tuple vs) (hv : vs[i]? = some v) : (execOp ρ o).run Tryz.prog w = .ok (.value v) w := by
  unfold execOp
  simp only [ho, hx]
  simp [Instr.extract, hv]
theorem run_cellRq {p : Addr} {q : Option Addr} {n c : Nat} (h : w.cell? p = some (.slice q n c)) : (loadVar 23 p).run Tryz.prog w = .ok (.slice q n c) w := by go_simp
end

def gX (k : Int) (q : Rq) : Int := if k = 0 then q 0 else q 2
def gY (k : Int) (q : Rq) : Int := if k = 0 then q 1 else q 3
def gE (k : Int) (q : Rq) : Int := if k = 0 then q 4 else q 6
def gL (k : Int) (q : Rq) : Int := if k = 0 then q 5 else q 7
/-- when the stop begins -/
def gB (k : Int) (q : Rq) (ax ay now : Int) : Int := mx (now + dsP ax ay (gX k q) (gY k q)) (gE k q)

set_option maxHeartbeats 4000000 in
set_option maxRecDepth 100000 in
theorem goes_calls (g mb : Nat) (vx y cp st en : Int) (p' : Option Addr) (c' : Nat) (t : List Rq) (ax ay now bd : Int) (n : Nat) (k : Int) (w : World) (hB : Blk w g (wkR vx y cp st en p' t.length c' mb ax ay now bd) 163) (hT : Els w p' 10 (t.map rqV)) (hn : n < t.length) (hag : ∀ a, p' = some a → a.block ≠ g)
    (hnow : 0 ≤ now ∧ now ≤ 10000000) (hea : 0 ≤ gE k t[n] ∧ gE k t[n] ≤ 10000000) (hsv : 0 ≤ t[n] 9 ∧ t[n] 9 ≤ 1000) :
    Calls Tryz.prog 94 #[.pointer (some ⟨g, 0, none⟩), .agg #[.int .i64 (n : Int), .int .i64 k]] w fun e w' =>
      e = .returned (.int .i64 (if gB k t[n] ax ay now > gL k t[n] then 9 else 0)) ∧
      Blk w' g (if gB k t[n] ax ay now > gL k t[n] then wkR vx y cp st en p' t.length c' mb ax ay now bd else wkR vx y cp st en p' t.length c' mb (gX k t[n]) (gY k t[n]) (gB k t[n] ax ay now + t[n] 9) bd) 163 ∧ Mod (· = g) w w' := by
  obtain ⟨a, rfl⟩ := hT.some_of (k := n) (by simpa using hn)
  have hlq : ∀ W, Mod (fun _ => False) w W → (loadVar 72 (a.add (n * 10))).run Tryz.prog W = .ok (.agg (rqV t[n]).toArray) W := fun W h => by
    have := (hT.mod h (fun _ _ h => h)).load (P := Tryz.prog) (a := a) rfl (k := n) (by simpa using hn) (ty := 72) Tryz.underlying72 rfl (by kernel_rfl)
    rwa [List.getElem_map] at this
  have hl9 := hT.one (a := a) rfl (k := n) (by simpa using hn) 9 (.int .i64 (t[n] 9)) (by simp [rqV])
  have hbig : t.length ≤ 140737488351232 := by simpa using hT.big
  have hgs := hB.lt
  have hpt := Lib.hid (fun wx => part_calls t[n] (n : Int) k wx)
  change Hid (∀ wx, Calls Tryz.prog 121 #[.agg #[.int .i64 (n : Int), .int .i64 k], .agg (rqV t[n]).toArray] wx fun e w' => e = .returned (.tuple #[.agg #[.int .i64 (gX k t[n]), .int .i64 (gY k t[n])], .agg #[.int .i64 (gE k t[n]), .int .i64 (gL k t[n])]]) ∧ Below wx.heap.size wx w') at hpt
  have hds := Lib.hid (fun wx => dist_calls ax ay (gX k t[n]) (gY k t[n]) wx)
  have hdb := dsP_bd ax ay (gX k t[n]) (gY k t[n])
  have hbe : gB k t[n] ax ay now = mx (now + dsP ax ay (gX k t[n]) (gY k t[n])) (gE k t[n]) := rfl
  generalize gB k t[n] ax ay now = b at *
  generalize gX k t[n] = px at *
  generalize gY k t[n] = py at *
  generalize gE k t[n] = ea at *
  generalize gL k t[n] = la at *
  generalize dsP ax ay px py = ds at *
  generalize (rqV t[n]).toArray = Q at *
  generalize t[n] 9 = sv9 at *
  generalize t.length = T at *
  obtain ⟨P, hP⟩ : ∃ P : Array Value, #[.int .i64 px, .int .i64 py] = P := ⟨_, rfl⟩
  obtain ⟨I, hI⟩ : ∃ I : Array Value, #[.int .i64 ea, .int .i64 la] = I := ⟨_, rfl⟩
  rw [hP, hI] at hpt
  have hPs := Lib.hid (show z2.size = P.size by rw [← hP]; rfl)
  have hIs := Lib.hid (show z2.size = I.size by rw [← hI]; rfl)
  have hP1 := Lib.hid (show ∀ v ∈ P.toList, v.oneCell' = true by rw [← hP]; simp [Value.oneCell'])
  have hI1 := Lib.hid (show ∀ v ∈ I.toList, v.oneCell' = true by rw [← hI]; simp [Value.oneCell'])
  replace hP := Lib.hid hP
  replace hI := Lib.hid hI
  replace hbe := Lib.hid hbe
  have hag2 : a.block ≠ g := hag a rfl
  generalize hE : (if b > la then (9 : Int) else 0) = E at *
  generalize hR : (if b > la then wkR vx y cp st en (some a) T c' mb ax ay now bd else wkR vx y cp st en (some a) T c' mb px py (b + sv9) bd) = R at *
  replace hE := Lib.hid hE
  replace hR := Lib.hid hR
  go_enter Tryz.func94, Tryz.ntmps94
  go_upto_region 1 with fail
  refine wp_world' (fun wx => Blk wx w.heap.size #[.int .i64 (n : Int), .int .i64 k] 75 ∧ Blk wx g (wkR vx y cp st en (some a) T c' mb ax ay now bd) 163 ∧ Mod (fun _ => False) w wx)
    ⟨Blk.new w _ _, hB.alloc _, (Mod.refl _ _).alloc _⟩ ?_
  rintro w1 ⟨hS, hW, hmd⟩
  replace hl9 := hmd.cell_of (fun h => h) hl9
  replace hlq := Lib.hid (fun (wx : World) (h : Mod (fun _ => False) w1 wx) => hlq wx (hmd.trans h))
  clear hB hT
  have hls := Lib.hid (fun (wx : World) (h : Mod (fun _ => False) w1 wx) => run_load_row' (P := Tryz.prog) wx w.heap.size 75 _ 75 _ (hS.mod h (fun h => h)) Tryz.underlying75 rfl (by kernel_rfl))
  have hlt := Lib.hid (fun (wx : World) (h : Mod (fun _ => False) w1 wx) => run_cellRq ((hW.mod h (fun h => h)).cell (i := 5) (v := .slice (some a) T c') rfl))
  have hlr := Lib.hid (fun (wx : World) (h : Mod (fun _ => False) w1 wx) => (hS.mod h (fun h => h)).cell (i := 0) (v := .int .i64 (n : Int)) rfl)
  have HS := Lib.hid hS
  have HW := Lib.hid hW
  have Hmd := Lib.hid hmd
  clear hS hW hmd
  refine wp_region_rove (X := Nat × Nat) (0, 0) (fun x => [(9, .agg #[.int .i64 (n : Int), .int .i64 k]), (10, .pointer (some ⟨g, 0, none⟩)), (11, .pointer (some ⟨g, 0, none⟩)), (12, .pointer (some ⟨g, 5, none⟩)), (13, .slice (some a) T c'), (14, .pointer (some ⟨w.heap.size, 0, none⟩)), (15, .int .i64 (n : Int)), (16, .pointer (some (a.add (n * 10)))), (17, .agg Q), (18, .tuple #[.agg P, .agg I]), (8, .tuple #[.agg P, .agg I]), (19, .agg P), (20, .agg I), (5, .pointer (some ⟨x.1, 0, none⟩)), (6, .pointer (some ⟨x.2, 0, none⟩))])
    (fun x d W' => ClP P I 51 70 w1 x (d 13) (d 14) (d 15) (d 16) W') (by kernel_rfl) (by kernel_rfl) (by kernel_rfl) (by kernel_rfl) (fun x => by kernel_rfl)
    ⟨(Mod.refl _ _).drew, (fun h => by cases h), (fun h => by cases h), fun h => by cases h⟩ ?_ ?_
  · intro aF hAF
    have E3 : ∀ x, (aF x).eval (.tmp 3) = .pointer (some ⟨w.heap.size, 0, none⟩) := by intro x; rw [hAF]; kernel_rfl
    have E0 : ∀ x, (aF x).eval (.tmp 0) = .pointer (some ⟨g, 0, none⟩) := by intro x; rw [hAF]; kernel_rfl
    have T9 : ∀ x, (aF x).tmps[9]? = some (.agg #[.int .i64 (n : Int), .int .i64 k]) := by intro x; rw [hAF]; kernel_rfl
    have E9 : ∀ x, (aF x).eval (.tmp 9) = .agg #[.int .i64 (n : Int), .int .i64 k] := by intro x; rw [hAF]; kernel_rfl
    have T10 : ∀ x, (aF x).tmps[10]? = some (.pointer (some ⟨g, 0, none⟩)) := by intro x; rw [hAF]; kernel_rfl
    have E10 : ∀ x, (aF x).eval (.tmp 10) = .pointer (some ⟨g, 0, none⟩) := by intro x; rw [hAF]; kernel_rfl
    have T11 : ∀ x, (aF x).tmps[11]? = some (.pointer (some ⟨g, 0, none⟩)) := by intro x; rw [hAF]; kernel_rfl
    have E11 : ∀ x, (aF x).eval (.tmp 11) = .pointer (some ⟨g, 0, none⟩) := by intro x; rw [hAF]; kernel_rfl
    have T12 : ∀ x, (aF x).tmps[12]? = some (.pointer (some ⟨g, 5, none⟩)) := by intro x; rw [hAF]; kernel_rfl
    have E12 : ∀ x, (aF x).eval (.tmp 12) = .pointer (some ⟨g, 5, none⟩) := by intro x; rw [hAF]; kernel_rfl
    have T13 : ∀ x, (aF x).tmps[13]? = some (.slice (some a) T c') := by intro x; rw [hAF]; kernel_rfl
    have E13 : ∀ x, (aF x).eval (.tmp 13) = .slice (some a) T c' := by intro x; rw [hAF]; kernel_rfl
    have T14 : ∀ x, (aF x).tmps[14]? = some (.pointer (some ⟨w.heap.size, 0, none⟩)) := by intro x; rw [hAF]; kernel_rfl
    have E14 : ∀ x, (aF x).eval (.tmp 14) = .pointer (some ⟨w.heap.size, 0, none⟩) := by intro x; rw [hAF]; kernel_rfl
    have T15 : ∀ x, (aF x).tmps[15]? = some (.int .i64 (n : Int)) := by intro x; rw [hAF]; kernel_rfl
    have E15 : ∀ x, (aF x).eval (.tmp 15) = .int .i64 (n : Int) := by intro x; rw [hAF]; kernel_rfl
    have T16 : ∀ x, (aF x).tmps[16]? = some (.pointer (some (a.add (n * 10)))) := by intro x; rw [hAF]; kernel_rfl
    have E16 : ∀ x, (aF x).eval (.tmp 16) = .pointer (some (a.add (n * 10))) := by intro x; rw [hAF]; kernel_rfl
    have T17 : ∀ x, (aF x).tmps[17]? = some (.agg Q) := by intro x; rw [hAF]; kernel_rfl
    have E17 : ∀ x, (aF x).eval (.tmp 17) = .agg Q := by intro x; rw [hAF]; kernel_rfl
    have T18 : ∀ x, (aF x).tmps[18]? = some (.tuple #[.agg P, .agg I]) := by intro x; rw [hAF]; kernel_rfl
    have E18 : ∀ x, (aF x).eval (.tmp 18) = .tuple #[.agg P, .agg I] := by intro x; rw [hAF]; kernel_rfl
    have T8 : ∀ x, (aF x).tmps[8]? = some (.tuple #[.agg P, .agg I]) := by intro x; rw [hAF]; kernel_rfl
    have E8 : ∀ x, (aF x).eval (.tmp 8) = .tuple #[.agg P, .agg I] := by intro x; rw [hAF]; kernel_rfl
    have T19 : ∀ x, (aF x).tmps[19]? = some (.agg P) := by intro x; rw [hAF]; kernel_rfl
    have E19 : ∀ x, (aF x).eval (.tmp 19) = .agg P := by intro x; rw [hAF]; kernel_rfl
    have T20 : ∀ x, (aF x).tmps[20]? = some (.agg I) := by intro x; rw [hAF]; kernel_rfl
    have E20 : ∀ x, (aF x).eval (.tmp 20) = .agg I := by intro x; rw [hAF]; kernel_rfl
    have T5 : ∀ x, (aF x).tmps[5]? = some (.pointer (some ⟨x.1, 0, none⟩)) := by intro x; rw [hAF]; kernel_rfl
    have E5 : ∀ x, (aF x).eval (.tmp 5) = .pointer (some ⟨x.1, 0, none⟩) := by intro x; rw [hAF]; kernel_rfl
    have T6 : ∀ x, (aF x).tmps[6]? = some (.pointer (some ⟨x.2, 0, none⟩)) := by intro x; rw [hAF]; kernel_rfl
    have E6 : ∀ x, (aF x).eval (.tmp 6) = .pointer (some ⟨x.2, 0, none⟩) := by intro x; rw [hAF]; kernel_rfl
    replace hAF := Lib.hid hAF
    refine ⟨?_, ?_, ?_, ?_, ?_, ?_, ?_, ?_, ?_, ?_, ?_, ?_, ?_, ?_, ?_, ?_, ?_, trivial⟩
    · exact opOk3_quiet _ (by intro x t hd _; cases hd; exact T9 x) (fun _ => rfl) fun x d w' hd hc => sv (run_load1 rfl (E3 x) (hls.out _ hc.m)) hc
    · exact opOk3_quiet _ (by intro x t hd _; cases hd; exact T10 x) (fun _ => rfl) fun x d w' hd hc => sv (run_mov rfl (E0 x)) hc
    · exact opOk3_quiet _ (by intro x t hd _; cases hd; exact T11 x) (fun _ => rfl) fun x d w' hd hc => sv (run_nilP rfl (E10 x)) hc
    · exact opOk3_quiet _ (by intro x t hd _; cases hd; exact T12 x) (fun _ => rfl) fun x d w' hd hc => sv (run_fldT rfl (E11 x) (fun _ => by kernel_rfl)) hc
    · exact opOk3_quiet _ (by intro x t hd _; cases hd; exact T13 x) (fun _ => rfl) fun x d w' hd hc => sv (run_load1 rfl (E12 x) (hlt.out _ hc.m)) hc
    · exact opOk3_quiet _ (by intro x t hd _; cases hd; exact T14 x) (fun _ => rfl) fun x d w' hd hc => sv (run_fldT rfl (E3 x) (fun _ => by kernel_rfl)) hc
    · exact opOk3_quiet _ (by intro x t hd _; cases hd; exact T15 x) (fun _ => rfl) fun x d w' hd hc => sv (run_load1 rfl (E14 x) (run_i64 (hlr.out _ hc.m))) hc
    · exact opOk3_quiet _ (by intro x t hd _; cases hd; exact T16 x) (fun _ => rfl) fun x d w' hd hc => sv (run_ixRq rfl (E13 x) (E15 x) hn) hc
    · exact opOk3_quiet _ (by intro x t hd _; cases hd; exact T17 x) (fun _ => rfl) fun x d w' hd hc => sv (run_load1 rfl (E16 x) (hlq.out _ hc.m)) hc
    · exact opOk3_quiet _ (by intro x t hd _; cases hd; exact T18 x) (fun _ => rfl) fun x d w' hd hc => sc (run_callPt rfl (E9 x) (E17 x)) ((hpt.out w').mono fun e w'' h => ⟨h.1, hc.mod ((Mod.refl _ _).after h.2)⟩)
    · exact opOk3_quiet _ (by intro x t hd _; cases hd; exact T8 x) (fun _ => rfl) fun x d w' hd hc => sv (run_mov rfl (E18 x)) hc
    · exact opOk3_quiet _ (by intro x t hd _; cases hd; exact T19 x) (fun _ => rfl) fun x d w' hd hc => sv (run_ext rfl (E8 x) rfl) hc
    · exact opOk3_quiet _ (by intro x t hd _; cases hd; exact T20 x) (fun _ => rfl) fun x d w' hd hc => sv (run_ext rfl (E8 x) rfl) hc
    · exact opOk3_loud rfl fun x d w' hd hn hc => by
        have n2 : d 13 = false := hn 13 (by kernel_rfl)
        have n4 : d 15 = false := hn 15 (by kernel_rfl)
        rw [n2, n4] at hc
        refine sk_v (run_allocA rfl) ?_
        refine ⟨(w'.heap.size, x.2), (by rw [hAF.out]; exact agree_set 13 (5, .pointer (some ⟨x.1, 0, none⟩)) rfl (by kernel_rfl)), (by intro t hd _; cases hd; exact T5 _), ?_⟩
        have := hc.box0
        show ClP P I _ _ w1 _ true (d 14) (d 15) (d 16) _
        rw [n4]
        exact this
    · exact opOk3_loud rfl fun x d w' hd hn hc => by
        have n2 : d 14 = false := hn 14 (by kernel_rfl)
        have n4 : d 16 = false := hn 16 (by kernel_rfl)
        rw [n2, n4] at hc
        refine sk_v (run_allocB rfl) ?_
        refine ⟨(x.1, w'.heap.size), (by rw [hAF.out]; exact agree_set 14 (6, .pointer (some ⟨x.2, 0, none⟩)) rfl (by kernel_rfl)), (by intro t hd _; cases hd; exact T6 _), ?_⟩
        have := hc.box1
        show ClP P I _ _ w1 _ (d 13) true (d 15) (d 16) _
        rw [n4]
        exact this
    · exact opOk3_loud rfl fun x d w' hd hn hc => by
        have n2 : d 13 = true := hd 13 (by kernel_rfl)
        have n4 : d 15 = false := hn 15 (by kernel_rfl)
        rw [n2, n4] at hc
        refine sk_s (run_storeP (ty := 51) rfl (E5 x) (E19 x) (run_storeVar_row w' x.1 51 z2 P 51 (hc.x0 rfl).1 hPs.out hP1.out (by rw [← hPs.out]; kernel_rfl))) ⟨x, agree_same _ _, (by intro t hd _; cases hd), ?_⟩
        show ClP P I _ _ w1 _ (d 13) (d 14) true (d 16) _
        rw [n2]
        exact hc.put0
    · exact opOk3_loud rfl fun x d w' hd hn hc => by
        have n2 : d 14 = true := hd 14 (by kernel_rfl)
        have n4 : d 16 = false := hn 16 (by kernel_rfl)
        rw [n2, n4] at hc
        refine sk_s (run_storeP (ty := 70) rfl (E6 x) (E20 x) (run_storeVar_row w' x.2 70 z2 I 70 (hc.x1 rfl).1 hIs.out hI1.out (by rw [← hIs.out]; kernel_rfl))) ⟨x, agree_same _ _, (by intro t hd _; cases hd), ?_⟩
        show ClP P I _ _ w1 _ (d 13) (d 14) (d 15) true _
        rw [n2]
        exact hc.put1
  · intro x d w2 hd hc
    obtain ⟨g5, g6⟩ := x
    simp only [putAll, List.foldl_cons, List.foldl_nil, Act.put, List.setIfInBounds_toArray, List.set_cons_succ, List.set_cons_zero]
    rw [hd 13 (by decide), hd 14 (by decide), hd 15 (by decide), hd 16 (by decide)] at hc
    have hsz := hc.m.size
    obtain ⟨hX5, hg5⟩ : Blk w2 g5 P 51 ∧ w1.heap.size ≤ g5 := hc.x0 rfl
    obtain ⟨hX6, hg6⟩ : Blk w2 g6 I 70 ∧ w1.heap.size ≤ g6 := hc.x1 rfl
    have hne : g5 ≠ g6 := hc.ne rfl rfl
    have hW2 := HW.out.mod hc.m (fun h => h)
    have hS2 := HS.out.mod hc.m (fun h => h)
    have hmd2 := Hmd.out.trans hc.m
    have hl92 := hc.m.cell_of (fun h => h) hl9
    have hg1 := HW.out.lt
    have hs1 := HS.out.lt
    clear hc hd HW HS Hmd hlq hls hlt hlr hpt hPs hIs hP1 hI1 hl9
    obtain rfl := hP.out
    obtain rfl := hI.out
    clear hP hI
    have hla : ∀ x : Later (fun _ => False) w2, (loadVar 51 ⟨g, 7, none⟩).run Tryz.prog x.val = .ok (.agg #[.int .i64 ax, .int .i64 ay]) x.val := fun x => by
      rw [load_part (P := Tryz.prog) x.val g (wkR vx y cp st en (some a) T c' mb ax ay now bd) 163 (hW2.mod x.mod (fun h => h)) 7 2 (by show 7 + 2 ≤ 11; omega) 51 _ Tryz.underlying51 rfl (by kernel_rfl)]
      rfl
    have hlb : ∀ x : Later (fun _ => False) w2, (loadVar 51 ⟨g5, 0, none⟩).run Tryz.prog x.val = .ok (.agg #[.int .i64 px, .int .i64 py]) x.val := fun x => run_load_row' (P := Tryz.prog) x.val g5 51 _ 51 _ (hX5.mod x.mod (fun h => h)) Tryz.underlying51 rfl (by kernel_rfl)
    have K9 : ∀ x : Later (fun _ => False) w2, x.val.cell? ⟨g, 9, none⟩ = some (.int .i64 now) := fun x => x.cell (hW2.cell (i := 9) rfl) (fun h => h)
    have K6 : ∀ x : Later (fun _ => False) w2, x.val.cell? ⟨g6, 0, none⟩ = some (.int .i64 ea) := fun x => x.cell (hX6.cell (i := 0) rfl) (fun h => h)
    have HW := Lib.hid hW2
    have HS := Lib.hid hS2
    have Hmd := Lib.hid hmd2
    have HX5 := Lib.hid hX5
    have HX6 := Lib.hid hX6
    replace hla := Lib.hid hla
    replace hlb := Lib.hid hlb
    replace hl9 := Lib.hid hl92
    have hw1 : IntKind.i64.wrap (now + ds) = now + ds := IntWalk.i64_in _ (by omega)
    clear hW2 hS2 hmd2 hX5 hX6 hl92
    go_upto_region 2 with fail
    refine wp_region_later (w0 := w2) (S := fun _ => False) (Mod.refl _ _) (by kernel_rfl) (by kernel_rfl) ?_
    repeat (go_big_quiet_step (fail))
    refine wpQuiet_v rfl (.agg #[.int .i64 ax, .int .i64 ay]) (by rintro _ ⟨z, rfl⟩; exact run_load_v rfl rfl (hla.out z)) ?_
    simp only [Act.put, List.setIfInBounds_toArray, List.set_cons_succ, List.set_cons_zero]
    refine wpQuiet_v rfl (.agg #[.int .i64 px, .int .i64 py]) (by rintro _ ⟨z, rfl⟩; exact run_load_v rfl rfl (hlb.out z)) ?_
    simp only [Act.put, List.setIfInBounds_toArray, List.set_cons_succ, List.set_cons_zero]
    go_big_quiet_step (((go_at_call 78; with_reducible exact Calls.later (hds.out _))))
    iterate 3 (go_big_quiet_step (fail))
    refine wpQuiet_v rfl (.int .i64 b) (by rintro _ ⟨z, rfl⟩; exact run_maxD hbe.out rfl rfl rfl) ?_
    simp only [Act.put, List.setIfInBounds_toArray, List.set_cons_succ, List.set_cons_zero]
    repeat (go_big_quiet_step (fail))
    refine wpQuiet_nil ?_
    rintro _ ⟨z, rfl⟩
    have hzs := z.mod.size
    have hW3 := HW.out.mod z.mod (fun h => h)
    have hS3 := HS.out.mod z.mod (fun h => h)
    have hX53 := HX5.out.mod z.mod (fun h => h)
    have hX63 := HX6.out.mod z.mod (fun h => h)
    have hmd3 := Hmd.out.trans z.mod
    have hl93 := z.mod.cell_of (fun h => h) hl9.out
    have hlt5 := HX5.out.lt
    have hlt6 := HX6.out.lt
    clear hla hlb K9 K6 HW HS Hmd HX5 HX6 hl9 hds
    generalize z.val = w3 at *
    clear z
    have k61 : w3.cell? ⟨g6, 1, none⟩ = some (.int .i64 la) := hX63.cell (i := 1) rfl
    have hbb : 0 ≤ b ∧ b ≤ 10002048 := by rw [hbe.out]; unfold mx; split <;> omega
    go_upto_if 38 with fail
    have HW := Lib.hid hW3
    have HS := Lib.hid hS3
    have Hmd := Lib.hid hmd3
    have HX5 := Lib.hid hX53
    have hl9 := Lib.hid hl93
    clear hW3 hS3 hX53 hX63 hmd3 hl93 k61
    by_cases hbl : b > la
    · obtain rfl : 9 = E := (if_pos hbl).symm.trans hE.out
      obtain rfl := (if_pos hbl).symm.trans hR.out
      clear hE hR
      go_wp2_with fail
      go_ret
      exact ⟨rfl, HW.out, Hmd.out.mono fun _ _ h => h.elim⟩
    · obtain rfl : 0 = E := (if_neg hbl).symm.trans hE.out
      obtain rfl := (if_neg hbl).symm.trans hR.out
      clear hE hR
      have hgS : ¬ (w.heap.size = g) := by omega
      have hg5 : ¬ (g5 = g) := by omega
      have hgA : ¬ (((a.add (n * 10)).add 9).block = g) := by rw [addr_block, addr_block]; exact hag2
      go_upto_region 5 with fail
      refine wp_region_puts [16, 19] [(39, .pointer (some ⟨g, 0, none⟩)), (40, .pointer (some ⟨g, 0, none⟩)), (41, .agg #[.int .i64 px, .int .i64 py]), (42, .int .i64 b), (43, .pointer (some ⟨g, 0, none⟩)), (44, .pointer (some ⟨g, 0, none⟩)), (45, .pointer (some ⟨g, 5, none⟩)), (46, .slice (some a) T c'), (47, .pointer (some ⟨w.heap.size, 0, none⟩)), (48, .int .i64 (n : Int)), (49, .pointer (some (a.add (n * 10)))), (50, .pointer (some ((a.add (n * 10)).add 9))), (51, .int .i64 sv9), (52, .int .i64 (b + sv9)), (53, .pointer (some ⟨g, 0, none⟩)), (54, .pointer (some ⟨g, 7, none⟩)), (55, .pointer (some ⟨g, 0, none⟩)), (56, .pointer (some ⟨g, 9, none⟩))]
        (fun k W' => Mod (fun j => j = g) w3 W' ∧ Blk W' g (match k with | 0 => wkR vx y cp st en (some a) T c' mb ax ay now bd | 1 => wkR vx y cp st en (some a) T c' mb px py now bd | _ => wkR vx y cp st en (some a) T c' mb px py (b + sv9) bd) 163) (by kernel_rfl) (by kernel_rfl) (by kernel_rfl) (by kernel_rfl) (by kernel_rfl)
        ⟨(Mod.refl _ _).drew, HW.out.drew⟩ ?_ ?_
      · intro aF hAF
        have E3 : aF.eval (.tmp 3) = .pointer (some ⟨w.heap.size, 0, none⟩) := by rw [← hAF]; kernel_rfl
        have E0 : aF.eval (.tmp 0) = .pointer (some ⟨g, 0, none⟩) := by rw [← hAF]; kernel_rfl
        have E5 : aF.eval (.tmp 5) = .pointer (some ⟨g5, 0, none⟩) := by rw [← hAF]; kernel_rfl
        have E7 : aF.eval (.tmp 7) = .int .i64 b := by rw [← hAF]; kernel_rfl
        have T39 : aF.tmps[39]? = some (.pointer (some ⟨g, 0, none⟩)) := by rw [← hAF]; kernel_rfl
        have E39 : aF.eval (.tmp 39) = .pointer (some ⟨g, 0, none⟩) := by rw [← hAF]; kernel_rfl
        have T40 : aF.tmps[40]? = some (.pointer (some ⟨g, 0, none⟩)) := by rw [← hAF]; kernel_rfl
        have E40 : aF.eval (.tmp 40) = .pointer (some ⟨g, 0, none⟩) := by rw [← hAF]; kernel_rfl
        have T41 : aF.tmps[41]? = some (.agg #[.int .i64 px, .int .i64 py]) := by rw [← hAF]; kernel_rfl
        have E41 : aF.eval (.tmp 41) = .agg #[.int .i64 px, .int .i64 py] := by rw [← hAF]; kernel_rfl
        have T42 : aF.tmps[42]? = some (.int .i64 b) := by rw [← hAF]; kernel_rfl
        have E42 : aF.eval (.tmp 42) = .int .i64 b := by rw [← hAF]; kernel_rfl
        have T43 : aF.tmps[43]? = some (.pointer (some ⟨g, 0, none⟩)) := by rw [← hAF]; kernel_rfl
        have E43 : aF.eval (.tmp 43) = .pointer (some ⟨g, 0, none⟩) := by rw [← hAF]; kernel_rfl
        have T44 : aF.tmps[44]? = some (.pointer (some ⟨g, 0, none⟩)) := by rw [← hAF]; kernel_rfl
        have E44 : aF.eval (.tmp 44) = .pointer (some ⟨g, 0, none⟩) := by rw [← hAF]; kernel_rfl
        have T45 : aF.tmps[45]? = some (.pointer (some ⟨g, 5, none⟩)) := by rw [← hAF]; kernel_rfl
        have E45 : aF.eval (.tmp 45) = .pointer (some ⟨g, 5, none⟩) := by rw [← hAF]; kernel_rfl
        have T46 : aF.tmps[46]? = some (.slice (some a) T c') := by rw [← hAF]; kernel_rfl
        have E46 : aF.eval (.tmp 46) = .slice (some a) T c' := by rw [← hAF]; kernel_rfl
        have T47 : aF.tmps[47]? = some (.pointer (some ⟨w.heap.size, 0, none⟩)) := by rw [← hAF]; kernel_rfl
        have E47 : aF.eval (.tmp 47) = .pointer (some ⟨w.heap.size, 0, none⟩) := by rw [← hAF]; kernel_rfl
        have T48 : aF.tmps[48]? = some (.int .i64 (n : Int)) := by rw [← hAF]; kernel_rfl
        have E48 : aF.eval (.tmp 48) = .int .i64 (n : Int) := by rw [← hAF]; kernel_rfl
        have T49 : aF.tmps[49]? = some (.pointer (some (a.add (n * 10)))) := by rw [← hAF]; kernel_rfl
        have E49 : aF.eval (.tmp 49) = .pointer (some (a.add (n * 10))) := by rw [← hAF]; kernel_rfl
        have T50 : aF.tmps[50]? = some (.pointer (some ((a.add (n * 10)).add 9))) := by rw [← hAF]; kernel_rfl
        have E50 : aF.eval (.tmp 50) = .pointer (some ((a.add (n * 10)).add 9)) := by rw [← hAF]; kernel_rfl
        have T51 : aF.tmps[51]? = some (.int .i64 sv9) := by rw [← hAF]; kernel_rfl
        have E51 : aF.eval (.tmp 51) = .int .i64 sv9 := by rw [← hAF]; kernel_rfl
        have T52 : aF.tmps[52]? = some (.int .i64 (b + sv9)) := by rw [← hAF]; kernel_rfl
        have E52 : aF.eval (.tmp 52) = .int .i64 (b + sv9) := by rw [← hAF]; kernel_rfl
        have T53 : aF.tmps[53]? = some (.pointer (some ⟨g, 0, none⟩)) := by rw [← hAF]; kernel_rfl
        have E53 : aF.eval (.tmp 53) = .pointer (some ⟨g, 0, none⟩) := by rw [← hAF]; kernel_rfl
        have T54 : aF.tmps[54]? = some (.pointer (some ⟨g, 7, none⟩)) := by rw [← hAF]; kernel_rfl
        have E54 : aF.eval (.tmp 54) = .pointer (some ⟨g, 7, none⟩) := by rw [← hAF]; kernel_rfl
        have T55 : aF.tmps[55]? = some (.pointer (some ⟨g, 0, none⟩)) := by rw [← hAF]; kernel_rfl
        have E55 : aF.eval (.tmp 55) = .pointer (some ⟨g, 0, none⟩) := by rw [← hAF]; kernel_rfl
        have T56 : aF.tmps[56]? = some (.pointer (some ⟨g, 9, none⟩)) := by rw [← hAF]; kernel_rfl
        have E56 : aF.eval (.tmp 56) = .pointer (some ⟨g, 9, none⟩) := by rw [← hAF]; kernel_rfl
        clear hAF
        have hk5 : ∀ k W', (Mod (fun j => j = g) w3 W' ∧ Blk W' g (match k with | 0 => wkR vx y cp st en (some a) T c' mb ax ay now bd | 1 => wkR vx y cp st en (some a) T c' mb px py now bd | _ => wkR vx y cp st en (some a) T c' mb px py (b + sv9) bd) 163) → W'.cell? ⟨g, 5, none⟩ = some (.slice (some a) T c') := by
          rintro k W' ⟨_, h⟩
          match k, h with
          | 0, h => exact h.cell (i := 5) rfl
          | 1, h => exact h.cell (i := 5) rfl
          | _ + 2, h => exact h.cell (i := 5) rfl
        refine ⟨?_, ?_, ?_, ?_, ?_, ?_, ?_, ?_, ?_, ?_, ?_, ?_, ?_, ?_, ?_, ?_, ?_, ?_, ?_, ?_, trivial⟩
        · exact opOk_quiet _ (by intro d hd _; cases hd; exact T39) rfl (by simp) fun k w' hc => sv (run_mov rfl E0) hc
        · exact opOk_quiet _ (by intro d hd _; cases hd; exact T40) rfl (by simp) fun k w' hc => sv (run_mov rfl E0) hc
        · exact opOk_quiet _ (by intro d hd _; cases hd; exact T41) rfl (by simp) fun k w' hc => sv (run_load1 rfl E5 (run_load_row' (P := Tryz.prog) w' g5 51 _ 51 _ (HX5.out.mod hc.1 hg5) Tryz.underlying51 rfl (by kernel_rfl))) hc
        · exact opOk_quiet _ (by intro d hd _; cases hd; exact T42) rfl (by simp) fun k w' hc => sv (run_mov rfl E7) hc
        · exact opOk_quiet _ (by intro d hd _; cases hd; exact T43) rfl (by simp) fun k w' hc => sv (run_mov rfl E0) hc
        · exact opOk_quiet _ (by intro d hd _; cases hd; exact T44) rfl (by simp) fun k w' hc => sv (run_nilP rfl E43) hc
        · exact opOk_quiet _ (by intro d hd _; cases hd; exact T45) rfl (by simp) fun k w' hc => sv (run_fldT rfl E44 (fun _ => by kernel_rfl)) hc
        · exact opOk_quiet _ (by intro d hd _; cases hd; exact T46) rfl (by simp) fun k w' hc => sv (run_load1 rfl E45 (run_cellRq (hk5 _ _ hc))) hc
        · exact opOk_quiet _ (by intro d hd _; cases hd; exact T47) rfl (by simp) fun k w' hc => sv (run_fldT rfl E3 (fun _ => by kernel_rfl)) hc
        · exact opOk_quiet _ (by intro d hd _; cases hd; exact T48) rfl (by simp) fun k w' hc => sv (run_load1 rfl E47 (run_i64 ((HS.out.mod hc.1 hgS).cell (i := 0) (v := .int .i64 (n : Int)) rfl))) hc
        · exact opOk_quiet _ (by intro d hd _; cases hd; exact T49) rfl (by simp) fun k w' hc => sv (run_ixRq rfl E46 E48 hn) hc
        · exact opOk_quiet _ (by intro d hd _; cases hd; exact T50) rfl (by simp) fun k w' hc => sv (run_fldA rfl E49) hc
        · exact opOk_quiet _ (by intro d hd _; cases hd; exact T51) rfl (by simp) fun k w' hc => sv (run_load1 rfl E50 (run_i64 (hc.1.cell_of hgA hl9.out))) hc
        · exact opOk_quiet _ (by intro d hd _; cases hd; exact T52) rfl (by simp) fun k w' hc => sv (run_addD (by omega) rfl E42 E51) hc
        · exact opOk_quiet _ (by intro d hd _; cases hd; exact T53) rfl (by simp) fun k w' hc => sv (run_nilP rfl E39) hc
        · exact opOk_quiet _ (by intro d hd _; cases hd; exact T54) rfl (by simp) fun k w' hc => sv (run_fldT rfl E53 (fun _ => by kernel_rfl)) hc
        · exact opOk_chain 0 undef (by intro d hd _; cases hd) rfl rfl (by decide) fun w' hc =>
          ss (run_storeP rfl E54 E41 (run_storeVar_part w' g 7 51 _ _ _ hc.2 (by show 7 + 2 ≤ 11; omega) (by simp [Value.oneCell']) (by kernel_rfl))) ⟨hc.1.trans (mod_row w' g _), setRow_heap w' g _ _ 163 (0, 0) hc.2⟩
        · exact opOk_quiet _ (by intro d hd _; cases hd; exact T55) rfl (by simp) fun k w' hc => sv (run_nilP rfl E40) hc
        · exact opOk_quiet _ (by intro d hd _; cases hd; exact T56) rfl (by simp) fun k w' hc => sv (run_fldT rfl E55 (fun _ => by kernel_rfl)) hc
        · exact opOk_chain 1 undef (by intro d hd _; cases hd) rfl rfl (by decide) fun w' hc =>
          ss (run_storeI rfl E56 E52 (hc.2.cell (i := 9) (v := .int .i64 now) rfl) (hc.2.froz 9)) ⟨hc.1.setCell (p := ⟨g, 9, none⟩) (fun _ => rfl) _, hc.2.set 9 (.int .i64 (b + sv9))⟩
      · rintro w4 ⟨hm4, hB4⟩
        simp only [putAll, List.foldl_cons, List.foldl_nil, Act.put, List.setIfInBounds_toArray, List.set_cons_succ, List.set_cons_zero]
        replace hB4 := Lib.hid hB4
        have hM4 := Lib.hid ((Hmd.out.mono fun _ _ h => h.elim).trans hm4)
        clear hm4 HW HS Hmd HX5 hl9
        go_wp2_with fail
        go_ret
        exact ⟨rfl, hB4.out, hM4.out⟩

end Go.Proofs.YtdmnoogppmckaaaGreat
