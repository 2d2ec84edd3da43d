/-
  Layer 7, the program's: the parts of a route's stops, as an iterator.
  Layer 7, the program's: wrong.
  Layer 7, the program's: next.
-/
import Derived.Test.YtpbmeeogledmdaeTm
namespace Go.Proofs.Ytpbmeeogledmdae
open Go.RowKit
attribute [local go_sem] Oper.semAt_some

section
variable {F : Fence} {n : Nat} {P : Program} {ops : Array Oper} {rest : List Oper} {o : Oper} {a : Act} {w w' : World} {Q : Exit → Act → World → Prop}
theorem wpListIn_v (hF : ∀ f, F.fn f) (hs : o.semAt F.round a.eval = execOp a.eval o) (hgd : Region.wanted o (yielded ops a.tmps) = true) (v : Value)
    (hrun : (execOp a.eval o).run P w = .ok (.value v) w') (h : wpListIn F n P ops Q rest (a.put o.dst v) w') : wpListIn F n P ops Q (o :: rest) a w :=
  wpListIn_step fun K hK => by
    rw [if_pos hgd]
    refine ⟨fun f _ => hF f, ?_⟩
    rw [hs, hrun]
    exact hK _ _ h
theorem wpListIn_sw (hF : ∀ f, F.fn f) (hs : o.semAt F.round a.eval = execOp a.eval o) (hgd : Region.wanted o (yielded ops a.tmps) = true) (hdst : o.dst = none)
    (hrun : (execOp a.eval o).run P w = .ok .skip w') (h : wpListIn F n P ops Q rest a w') : wpListIn F n P ops Q (o :: rest) a w :=
  wpListIn_step fun K hK => by
    rw [if_pos hgd]
    refine ⟨fun f _ => hF f, ?_⟩
    rw [hs, hrun]
    show K (a.put o.dst undef) _
    rw [hdst]
    exact hK _ _ h
theorem wpListIn_load_v (hF : ∀ f, F.fn f) (hs : o.semAt F.round a.eval = execOp a.eval o) (hgd : Region.wanted o (yielded ops a.tmps) = true) (ty : TypeId) (x : Operand) (ho : o.op = .load ty x)
    (p : Addr) (hx : a.eval x = .pointer (some p)) (v : Value) (hrun : (loadVar ty p).run P w = .ok v w) (h : wpListIn F n P ops Q rest (a.put o.dst v) w) : wpListIn F n P ops Q (o :: rest) a w :=
  wpListIn_v hF hs hgd v (run_load_v ho hx hrun) h
end
theorem parts_calls (p p' : Option Addr) (c c' n m : Nat) (w : World) : Calls Try.prog 26 #[.slice p n c, .slice p' m c'] w fun e w' =>
    e = .returned (.func (.func 48) #[] #[.pointer (some ⟨w.heap.size, 0, none⟩), .pointer (some ⟨w.heap.size + 1, 0, none⟩)]) ∧ (w.alloc (.cells #[.slice p n c] 48)).alloc (.cells #[.slice p' m c'] 30) = w' := by
  go_enter Try.func26, Try.ntmps26
  go_wp2
  go_ret
  exact ⟨rfl, rfl⟩

set_option maxHeartbeats 1000000 in
set_option maxRecDepth 100000 in
theorem parts_iter (p p' : Option Addr) (c c' : Nat) (l : List (Int × Int)) (t : List Rq) (w W : World) (b1 b2 : Nat) (hL : Els w p 2 (l.map stV)) (hT : Els w p' 10 (t.map rqV)) (hb : Below w.heap.size w W)
    (h1 : W.cell? ⟨b1, 0, none⟩ = some (.slice p l.length c)) (h2 : W.cell? ⟨b2, 0, none⟩ = some (.slice p' t.length c')) :
    Iter Try.prog 48 #[.pointer (some ⟨b1, 0, none⟩), .pointer (some ⟨b2, 0, none⟩)] (fun x : Pt × Bool => #[.agg x.1.row, .bool x.2]) (fun _ => False) (fun k => k < w.heap.size ∨ k = b1 ∨ k = b2) (l.map fun s => (ptG s t, ptB s t)) W := by
  intro yl J Jx n hJ hJx hY h0
  have hbl : l.length ≤ 140737488351232 := by simpa using hL.big
  replace hL := Lib.hid hL
  replace hT := Lib.hid hT
  replace hY := Lib.hid hY
  replace hJ := Lib.hid hJ
  replace hJx := Lib.hid hJx
  refine callsIn_of_wp Try.func48 rfl trivial ?_ rfl
  simp only [Try.ntmps48, List.size_toArray, List.length_cons, List.length_nil, Nat.reduceAdd, Nat.reduceSub, Array.replicate_succ, Array.replicate_zero, List.push_toArray, List.append_toArray, List.nil_append, List.cons_append]
  gi_wp2
  gi_loopw [8] (fun i wr => ∃ k : Nat, k ≤ l.length ∧ i = .int .i64 k ∧ J ((l.take k).map fun s => (ptG s t, ptB s t)) wr ∧ Below w.heap.size w wr ∧ wr.cell? ⟨b1, 0, none⟩ = some (.slice p l.length c) ∧ wr.cell? ⟨b2, 0, none⟩ = some (.slice p' t.length c')) (fun i _ => l.length - (intOf i).toNat)
  case atStart => exact ⟨0, Nat.zero_le _, rfl, h0, hb, h1, h2⟩
  case round =>
    obtain ⟨k, hk, rfl, hJk, hbr, c1, c2⟩ := hrel
    by_cases hlt : k < l.length
    · have hltI : (k : Int) < (l.length : Int) := by omega
      have s1 : IntKind.i64.wrap ((k : Int) + 1) = (k : Int) + 1 := IntWalk.i64_in _ (by omega)
      obtain ⟨a, rfl⟩ := (hL.out.below hbr).some_of (k := k) (by simpa using hlt)
      have hla := Lib.hid ((hL.out.below hbr).load (P := Try.prog) (a := a) rfl (k := k) (by simpa using hlt) (ty := 81) Try.underlying81 rfl (by kernel_rfl))
      rw [List.getElem_map] at hla
      obtain ⟨r, q, hs⟩ : ∃ r q, l[k] = (r, q) := ⟨_, _, rfl⟩
      have hsplit : Hid (l.map (fun s => (ptG s t, ptB s t)) = (l.take k).map (fun s => (ptG s t, ptB s t)) ++ (ptG (r, q) t, ptB (r, q) t) :: (l.drop (k + 1)).map (fun s => (ptG s t, ptB s t))) := Lib.hid (by
        rw [← hs, ← List.map_cons (f := fun s => (ptG s t, ptB s t)), ← List.drop_eq_getElem_cons hlt, ← List.map_append, List.take_append_drop])
      have htk : Hid ((l.take (k + 1)).map (fun s => (ptG s t, ptB s t)) = (l.take k).map (fun s => (ptG s t, ptB s t)) ++ [(ptG (r, q) t, ptB (r, q) t)]) := Lib.hid (by
        rw [List.take_succ_eq_append_getElem hlt, List.map_append, hs]; rfl)
      have hof := Lib.hid (fun wx (h : Below w.heap.size w wx) => of_calls p' c' t r q wx (hT.out.below h))
      rw [hs] at hla
      replace hla : Hid ((loadVar 81 (a.add (k * 2))).run Try.prog wr = .ok (.agg #[.int .i64 r, .int .i64 q]) wr) := hla
      replace hJk := Lib.hid hJk
      clear h0 h1 h2 hb
      generalize ptG (r, q) t = G at hsplit htk hof
      generalize ptB (r, q) t = B at hsplit htk hof
      have c2a := cellA (.cells #[.int .i64 r, .int .i64 q] 81) c2
      gi_wp2_with (first | (refine wpListIn_load_v (fun _ => trivial) rfl rfl 81 _ rfl (a.add (k * 2)) rfl _ hla.out ?_))
      have hM1 : Mod (fun _ => False) wr (wr.alloc (.cells #[.int .i64 r, .int .i64 q] 81)) := (Mod.refl _ _).alloc _
      have hb1 := hbr.trans (hM1.below hbr.size (fun _ h => h.elim))
      refine callW (hof.out _ hb1) ?_
      rintro e w1 ⟨rfl, hb2⟩
      have hM2 := hM1.after hb2
      have c1' := hM2.cell_of (fun h => h) c1
      have c2' := hM2.cell_of (fun h => h) c2
      have hb2' := Lib.hid (hb1.trans (hb2.mono hb1.size))
      have hJ2 := hJ.out _ _ _ hJk.out hM2
      obtain ⟨fn, tmps, assign, body, hy, hR⟩ := hY.out _ _ _ _ hsplit.out (fun _ h => h.elim) hJ2
      have HR := Lib.hid hR
      clear hR hM1 hM2 hJ2 hY hJ hJx hb1 hb2 hof hla c1 c2 hbr
      gi_wp2_with fail
      refine ⟨wideN _, HR.out.mono ?_⟩
      rintro e W3 ⟨hT, (⟨rfl, hJ3⟩ | ⟨rfl, hJx3⟩)⟩
      · have c1 := Lib.hid (hT.cell_of (p := ⟨b1, 0, none⟩) (fun h => h.2 (.inr (.inl rfl))) c1')
        have c2 := Lib.hid (hT.cell_of (p := ⟨b2, 0, none⟩) (fun h => h.2 (.inr (.inr rfl))) c2')
        have hb3 := Lib.hid (hb2'.out.trans (hT.below hb2'.out.size (fun k h => Nat.le_of_not_lt fun hlt => h.2 (.inl hlt))))
        clear hT c1' c2' hy hb2'
        gi_wp2
        go_roundw
        case rel => exact ⟨k + 1, by omega, by simp, by rw [htk.out]; exact hJ3, hb3.out, c1.out, c2.out⟩
        case measure => simp [intOf]; omega
      · clear hT c1' c2' hy hb2'
        gi_wp2
        refine bodyPost_ret (results_none rfl _ _ _) rfl ?_
        exact ⟨⟨_, rfl⟩, .inr ⟨_, _, _, hsplit.out, hJx3⟩⟩
    · obtain rfl : k = l.length := by omega
      rw [List.take_length] at hJk
      gi_wp2
      go_end0
      exact ⟨⟨_, rfl⟩, .inl hJk⟩
end Go.Proofs.Ytpbmeeogledmdae
namespace Go.Proofs.Ytpbmeeogledmdae
open Go.RowKit
attribute [local go_sem] Oper.semAt_some

theorem wpIn_world {F : Fence} {n : Nat} {P : Program} {c : Code} {Q : Exit → Act → World → Prop} {a : Act} {W : World} (R : World → Prop) (h : R W) (k : ∀ wx, R wx → c.wpIn F n P Q a wx) : c.wpIn F n P Q a W := k W h

theorem wpListIn_store_new {F : Fence} {n : Nat} {P : Program} {ops : Array Oper} {rest : List Oper} {o : Oper} {a : Act} {w : World} {Q : Exit → Act → World → Prop} (hF : ∀ f, F.fn f) (hse : o.semAt F.round a.eval = execOp a.eval o) (hgd : Region.wanted o (yielded ops a.tmps) = true) (ty : TypeId) (x y : Operand) (ho : o.op = .store ty x y) (hdst : o.dst = none)
    (hx : a.eval x = .pointer (some ⟨w.heap.size, 0, none⟩)) (C cs : Array Value) (t : TypeId) (hy : a.eval y = .agg cs) (hs : C.size = cs.size) (h1 : ∀ v ∈ cs.toList, v.oneCell' = true)
    (hi : (P.info? ty).map (·.size) = some cs.size)
    (h : wpListIn F n P ops Q rest a (w.alloc (.cells cs t))) : wpListIn F n P ops Q (o :: rest) a (w.alloc (.cells C t)) :=
  wpListIn_sw hF hse hgd hdst (by
    unfold execOp
    simp only [ho, hx, hy, Instr.storeAt, Instr.sureAddr, Sem.run_bind, Sem.run_pure, Result.andThen_ok, run_storeVar_new w ty C cs t hs h1 hi]) h
theorem res_cell1 {P : Program} {fn : Func} {p : Tmp} {ty : TypeId} (h : fn.results = #[.cell p ty]) {tmps : Array Value} {w : World} {g : Nat} {v : Value} (hp : tmps.getD p undef = .pointer (some ⟨g, 0, none⟩)) (hrun : (loadVar ty ⟨g, 0, none⟩).run P w = .ok v w) :
    (results fn tmps).run P w = .ok v w := by
  rw [Array.getD_eq_getD_getElem?] at hp
  simp [results, h, hp, asAddr, hrun]
theorem run_cellE {w : World} {g : Nat} {v : Int} (h : w.cell? ⟨g, 0, none⟩ = some (.int .i64 v)) : (loadVar 41 ⟨g, 0, none⟩).run Try.prog w = .ok (.int .i64 v) w := by go_simp

set_option maxHeartbeats 2000000 in
set_option maxRecDepth 100000 in
theorem swrong_calls (x y cp st en : Int) (p p' : Option Addr) (c c' : Nat) (l : List (Int × Int)) (t : List Rq) (w : World) (hL : Els w p 2 (l.map stV)) (hT : Els w p' 10 (t.map rqV)) :
    Calls Try.prog 24 #[.agg #[.int .i64 x, .int .i64 y, .int .i64 cp, .int .i64 st, .int .i64 en], .slice p l.length c, .slice p' t.length c'] w fun e w' => e = .returned (.int .i64 (wrP x y cp st en l t)) ∧ Below w.heap.size w w' := by
  have hbl : l.length ≤ 140737488351232 := by simpa using hL.big
  have hbt : t.length ≤ 140737488351232 := by simpa using hT.big
  have hX : wrP x y cp st en l t = if vehCode x y cp st en ≠ 0 then 2 else if t.any (fun q => rqE q != 0) then 2 else if chkP l ≠ 0 then 8 else if l.any (fun s => !ptB s t) then 8 else 0 := rfl
  have hv := Lib.hid (fun w => vehicle_calls x y cp st en w)
  have hk := Lib.hid (fun wx (h : Below w.heap.size w wx) => rcheck_calls p c l wx (hL.below h))
  have hq := Lib.hid (fun w (q : Rq) => check_calls (q 0) (q 1) (q 2) (q 3) (q 4) (q 5) (q 6) (q 7) (q 8) (q 9) w)
  have hit := Lib.hid (fun W b1 b2 hb h1 h2 => parts_iter p p' c c' l t w W b1 b2 hL hT hb h1 h2)
  generalize wrP x y cp st en l t = X at hX ⊢
  generalize vehCode x y cp st en = ve at hX hv
  generalize chkP l = ck at hX hk
  replace hX := Lib.hid hX
  replace hL := Lib.hid hL
  replace hT := Lib.hid hT
  have hlv := Lib.hid (fun wx (h : Blk wx w.heap.size #[.int .i64 x, .int .i64 y, .int .i64 cp, .int .i64 st, .int .i64 en] 47) => run_load_row' (P := Try.prog) wx w.heap.size 47 #[.int .i64 x, .int .i64 y, .int .i64 cp, .int .i64 st, .int .i64 en] 47 _ h Try.underlying47 rfl (by kernel_rfl))
  have hlv1 := Lib.hid (hlv.out ((w.alloc (.cells #[.int .i64 x, .int .i64 y, .int .i64 cp, .int .i64 st, .int .i64 en] 47)).alloc (.cells #[.int .i64 0] 41)) ((Blk.new _ _ _).alloc _))
  refine calls_of_all fun n => ?_
  refine callsIn_of_wp_marks Try.func24 rfl trivial ?_ rfl
  simp only [Try.ntmps24, List.size_toArray, List.length_cons, List.length_nil, Nat.reduceAdd, Nat.reduceSub, Array.replicate_succ, Array.replicate_zero, List.push_toArray, List.append_toArray, List.nil_append, List.cons_append]
  gi_wp2_with (first | (refine wpListIn_load_v (fun _ => trivial) rfl rfl 47 _ rfl ⟨w.heap.size, 0, none⟩ rfl _ hlv1.out ?_))
  refine callW (hv.out _) ?_
  rintro e w2 ⟨rfl, hb2⟩
  have hE2 := (Blk.new' w (.cells #[.int .i64 x, .int .i64 y, .int .i64 cp, .int .i64 st, .int .i64 en] 47) #[.int .i64 0] 41).mod ((Mod.refl (fun _ => False) _).after hb2) (fun h => h)
  have hbb := (((Below.refl w.heap.size w).alloc (Nat.le_refl _) (.cells #[.int .i64 x, .int .i64 y, .int .i64 cp, .int .i64 st, .int .i64 en] 47)).alloc (by simp) (.cells #[.int .i64 0] 41))
  have hb := hbb.trans (hb2.mono hbb.size)
  have c0 := hE2.cell (i := 0) rfl
  have f0 := hE2.froz 0
  clear hlv hlv1 hv hbb hb2
  by_cases v0 : ve = 0
  · subst v0
    gi_wp2_with fail
    gi_loopw [16] (fun i wr => ∃ k : Nat, k ≤ t.length ∧ i = .int .i64 k ∧ Hid (∀ j q, j < k → t[j]? = some q → rqE q = 0) ∧ Below w.heap.size w wr ∧ Blk wr (w.heap.size + 1) #[.int .i64 0] 41) (fun i _ => t.length - (intOf i).toNat)
    case atStart => exact ⟨0, Nat.zero_le _, rfl, Lib.hid (fun j q h => by omega), hb, hE2⟩
    case round =>
      obtain ⟨k, hkl, rfl, hR, hbr, hEr⟩ := hrel
      by_cases hlt : k < t.length
      · have hltI : (k : Int) < (t.length : Int) := by omega
        have s1 : IntKind.i64.wrap ((k : Int) + 1) = (k : Int) + 1 := IntWalk.i64_in _ (by omega)
        obtain ⟨a, rfl⟩ := (hT.out.below hbr).some_of (k := k) (by simpa using hlt)
        have hla := Lib.hid ((hT.out.below hbr).load (P := Try.prog) (a := a) rfl (k := k) (by simpa using hlt) (ty := 61) Try.underlying61 rfl (by kernel_rfl))
        rw [List.getElem_map] at hla
        have htk : t[k]? = some t[k] := List.getElem?_eq_getElem hlt
        generalize t[k] = q at hla htk
        have hqq : Hid (rqCode (q 0) (q 1) (q 2) (q 3) (q 4) (q 5) (q 6) (q 7) (q 8) (q 9) = rqE q) := Lib.hid rfl
        have hcq := Lib.hid (fun w => hq.out w q)
        rw [hqq.out] at hcq
        have hbad : Hid (rqE q ≠ 0 → X = 2) := Lib.hid (fun h => by
          rw [hX.out, if_neg (by simp), if_pos]
          rw [List.any_eq_true]
          exact ⟨q, List.mem_of_getElem? htk, by simpa using h⟩)
        have hok : Hid (rqE q = 0 → ∀ j q, j < k + 1 → t[j]? = some q → rqE q = 0) := Lib.hid (fun h j u hj hju => by
          by_cases e : j = k
          · subst e; rw [htk] at hju; cases hju; exact h
          · exact hR.out j u (by omega) hju)
        clear hR htk hqq c0 f0 hE2 hb
        generalize rqE q = rc at hcq hbad hok
        have hq1 := Lib.hid (run_load_row' (P := Try.prog) _ wr.heap.size 61 (rqV q).toArray 61 _ (Blk.new wr (rqV q).toArray 61) Try.underlying61 rfl (by kernel_rfl))
        gi_wp2_with (first | (refine wpListIn_load_v (fun _ => trivial) rfl rfl 61 _ rfl (a.add (k * 10)) rfl _ hla.out ?_) | (refine wpListIn_store_new (fun _ => trivial) rfl rfl 61 _ _ rfl rfl rfl _ (rqV q).toArray _ rfl rfl (rqV_one _) (by kernel_rfl) ?_) | (refine wpListIn_load_v (fun _ => trivial) rfl rfl 61 _ rfl ⟨wr.heap.size, 0, none⟩ rfl _ hq1.out ?_))
        have hbA := hbr.alloc hbr.size (.cells (rqV q).toArray 61)
        refine callW (hcq.out _) ?_
        rintro e w3 ⟨rfl, hb3⟩
        have hE3 := (hEr.alloc (.cells (rqV q).toArray 61)).mod ((Mod.refl (fun _ => False) _).after hb3) (fun h => h)
        replace hb3 := hbA.trans (hb3.mono hbA.size)
        clear hla hcq hbr hEr hbA hq1
        by_cases r0 : rc = 0
        · have hok' := Lib.hid (hok.out r0)
          subst r0
          clear hbad hok
          gi_wp2
          go_roundw
          case rel => exact ⟨k + 1, by omega, by simp, hok', hb3, hE3⟩
          case measure => simp [intOf]; omega
        · obtain rfl : X = 2 := hbad.out r0
          have d1 : (rc == 0) = false := beq_eq_false_iff_ne.2 r0
          have d2 : (rc != 0) = true := by rw [bne, d1]; rfl
          have c0 := hE3.cell (i := 0) rfl
          have f0 := hE3.froz 0
          have hEE := Lib.hid ((hE3.set 0 (.int .i64 2)).cell (i := 0) rfl)
          have hbE := Lib.hid (hb3.setCell (p := ⟨w.heap.size + 1, 0, none⟩) (by simp) (.int .i64 2))
          clear hbad hok hX hE3 hb3
          gi_wp2
          refine ⟨_, res_cell1 Try.results24 rfl (run_cellE hEE.out), rfl, hbE.out⟩
      · obtain rfl : k = t.length := by omega
        have hX2 : X = if ck ≠ 0 then 8 else if l.any (fun s => !ptB s t) then 8 else 0 := by
          rw [hX.out, if_neg (by simp), if_neg]
          rw [List.any_eq_true]
          rintro ⟨q, hq, hne⟩
          obtain ⟨j, hj, rfl⟩ := List.getElem_of_mem hq
          exact (by simpa using hne : rqE t[j] ≠ 0) (hR.out j _ hj (List.getElem?_eq_getElem hj))
        replace hX2 := Lib.hid hX2
        clear hX hR hq c0 f0 hE2 hb
        gi_wp2_with fail
        refine callW (hk.out _ hbr) ?_
        rintro e w3 ⟨rfl, hb3⟩
        have hE3 := hEr.mod ((Mod.refl (fun _ => False) _).after hb3) (fun h => h)
        replace hb3 := hbr.trans (hb3.mono hbr.size)
        clear hk hbr hEr
        by_cases c0 : ck = 0
        · subst c0
          gi_wp2_with fail
          refine callW (parts_calls _ _ _ _ _ _ _) ?_
          rintro e w4 ⟨rfl, rfl⟩
          gi_wp2
          obtain ⟨W0, hW0⟩ : ∃ W0, (w3.alloc (.cells #[.slice p l.length c] 48)).alloc (.cells #[.slice p' t.length c'] 30) = W0 := ⟨_, rfl⟩
          have hz : W0.heap.size = w3.heap.size + 2 := by rw [← hW0]; simp
          have hl3 := hE3.lt
          have hb0 : Below w.heap.size w W0 := by rw [← hW0]; exact (hb3.alloc hb3.size _).alloc (by have := hb3.size; simp; omega) _
          have hE0 : Blk W0 (w.heap.size + 1) #[.int .i64 0] 41 := by rw [← hW0]; exact (hE3.alloc _).alloc _
          have k1 : W0.cell? ⟨w3.heap.size, 0, none⟩ = some (.slice p l.length c) := by rw [← hW0]; exact cellA _ (cellN w3 _ _).1
          have k2 : W0.cell? ⟨w3.heap.size + 1, 0, none⟩ = some (.slice p' t.length c') := by
            rw [← hW0]
            have := (cellN (w3.alloc (.cells #[.slice p l.length c] 48)) (.slice p' t.length c') 30).1
            simp
          rw [hW0]
          clear hW0 hE3 hb3
          refine wp_rangeIter (gf := 48) (lb := #[.pointer (some ⟨w3.heap.size, 0, none⟩), .pointer (some ⟨w3.heap.size + 1, 0, none⟩)]) rfl (enters_of Try.func48 (by kernel_rfl) rfl)
            (encs := fun x : Pt × Bool => #[.agg x.1.row, .bool x.2]) (fun _ => rfl) (S := fun _ => False) (Dt := fun k => k < w.heap.size ∨ k = w3.heap.size ∨ k = w3.heap.size + 1) (xs := l.map fun s => (ptG s t, ptB s t))
            (fun o o' => hit.out _ w3.heap.size (w3.heap.size + 1) ((hb0.alloc hb0.size _).alloc (by have := hb0.size; simp; omega) _) (cellA _ (cellA _ k1)) (cellA _ (cellA _ k2)))
            ⟨fun h => h, fun h => h⟩ (by omega)
            (fun pre W => Below w.heap.size w W ∧ Blk W (w.heap.size + 1) #[.int .i64 0] 41 ∧ pre.all (·.2) = true)
            (fun c pre W => c = .ret ∧ Below w.heap.size w W ∧ Blk W (w.heap.size + 1) #[.int .i64 8] 41 ∧ pre.all (·.2) = false)
            ?hI ?hIx ?h0 ?hround ?hdone ?hstop
          case h0 => exact ⟨hb0, hE0, rfl⟩
          case hI =>
            rintro pre A B ⟨a1, a2, a3⟩ hm
            exact ⟨a1.trans (hm.below a1.size (fun k hk => by rcases hk with h | h; exact h.elim; omega)), a2.mod hm (fun hk => by rcases hk with h | h; exact h.elim; omega), a3⟩
          case hIx =>
            rintro c pre A B ⟨a0, a1, a2, a3⟩ hm
            exact ⟨a0, a1.trans (hm.below a1.size (fun k hk => by rcases hk with h | h; exact h.elim; omega)), a2.mod hm (fun hk => by rcases hk with h | h; exact h.elim; omega), a3⟩
          case hround =>
            rintro pre ⟨g, b⟩ rest W hx hSW hlt ⟨a1, a2, a3⟩
            gi_wp2
            refine ⟨Mod.refl _ _, fun W2 hm => ?_⟩
            replace a1 := a1.trans (hm.below (B := w.heap.size) a1.size (by omega))
            replace a2 := a2.mod hm (by omega)
            have c0 := a2.cell (i := 0) rfl
            have f0 := a2.froz 0
            have HA1 := Lib.hid a1
            have HA2 := Lib.hid a2
            have HA3 := Lib.hid a3
            clear a1 a2 a3 hm
            cases b with
            | true =>
              gi_wp2
              exact ⟨Mod.refl _ _, HA1.out, HA2.out, by simp [HA3.out]⟩
            | false =>
              gi_wp2
              exact ⟨Mod.setCell (Mod.refl _ _) (p := ⟨w.heap.size + 1, 0, none⟩) (fun _ => ⟨fun h => h, (by show ¬ (w.heap.size + 1 < w.heap.size ∨ w.heap.size + 1 = w3.heap.size ∨ w.heap.size + 1 = w3.heap.size + 1); omega), (by show w.heap.size + 1 ≠ W0.heap.size; omega), (by show w.heap.size + 1 ≠ W0.heap.size + 1; omega)⟩) _, rfl, HA1.out.setCell (p := ⟨w.heap.size + 1, 0, none⟩) (by simp) _, HA2.out.set 0 _, by simp⟩
          case hdone =>
            rintro W ⟨a1, a2, a3⟩ hD hlt
            obtain rfl : X = 0 := by
              rw [hX2.out, if_neg (by simp), if_neg]
              intro hany
              obtain ⟨s, hs, hne⟩ := List.any_eq_true.1 hany
              rw [List.all_eq_true] at a3
              have := a3 (ptG s t, ptB s t) (List.mem_map.2 ⟨s, hs, rfl⟩)
              simp only at this
              rw [this] at hne
              cases hne
            have c0 := a2.cell (i := 0) rfl
            have f0 := a2.froz 0
            have HA1 := Lib.hid a1
            have HA2 := Lib.hid a2
            clear a1 a2 a3 hX2
            gi_wp2
            refine ⟨by simp, .inl ⟨_, _, rfl, run_takeDeferred (setCell_heap hD (by simp; omega)), ?_⟩⟩
            refine ⟨_, res_cell1 Try.results24 rfl (run_cellE ((putObj_cell (by show w.heap.size + 1 ≠ _; omega)).trans ((HA2.out.set 0 (.int .i64 0)).cell (i := 0) rfl))), rfl, below_putObj (HA1.out.setCell (p := ⟨w.heap.size + 1, 0, none⟩) (by simp) _) (by have := HA2.out.lt; omega) _⟩
          case hstop =>
            rintro c pre x rest W hx ⟨rfl, a1, a2, a3⟩ hD hlt
            obtain rfl : X = 8 := by
              rw [hX2.out, if_neg (by simp), if_pos]
              rw [List.all_eq_false] at a3
              obtain ⟨y, hy, hne⟩ := a3
              have : y ∈ l.map fun s => (ptG s t, ptB s t) := by rw [hx]; rw [List.mem_append] at hy ⊢; rcases hy with h | h; exact .inl h; rw [List.mem_singleton] at h; subst h; exact .inr List.mem_cons_self
              obtain ⟨s, hs, rfl⟩ := List.mem_map.1 this
              exact List.any_eq_true.2 ⟨s, hs, by simpa using hne⟩
            clear hX2
            gi_wp2
            refine ⟨by simp, .inl ⟨_, _, rfl, run_takeDeferred hD, ?_⟩⟩
            refine ⟨_, res_cell1 Try.results24 rfl (run_cellE ((putObj_cell (by show w.heap.size + 1 ≠ _; omega)).trans (a2.cell (i := 0) rfl))), rfl, below_putObj a1 (by omega) _⟩
        · obtain rfl : X = 8 := by rw [hX2.out, if_pos c0]
          have d1 : (ck == 0) = false := beq_eq_false_iff_ne.2 c0
          have d2 : (ck != 0) = true := by rw [bne, d1]; rfl
          have c0 := hE3.cell (i := 0) rfl
          have f0 := hE3.froz 0
          have hEE := Lib.hid ((hE3.set 0 (.int .i64 8)).cell (i := 0) rfl)
          have hbE := Lib.hid (hb3.setCell (p := ⟨w.heap.size + 1, 0, none⟩) (by simp) (.int .i64 8))
          clear hX2 hE3 hb3
          gi_wp2
          exact ⟨_, res_cell1 Try.results24 rfl (run_cellE hEE.out), rfl, hbE.out⟩
  · obtain rfl : X = 2 := by rw [hX.out, if_pos v0]
    have d1 : (ve == 0) = false := beq_eq_false_iff_ne.2 v0
    have d2 : (ve != 0) = true := by rw [bne, d1]; rfl
    have hEE := Lib.hid ((hE2.set 0 (.int .i64 2)).cell (i := 0) rfl)
    have hbE := Lib.hid (hb.setCell (p := ⟨w.heap.size + 1, 0, none⟩) (by simp) (.int .i64 2))
    clear hX hE2 hb
    gi_wp2
    exact ⟨_, res_cell1 Try.results24 rfl (run_cellE hEE.out), rfl, hbE.out⟩
end Go.Proofs.Ytpbmeeogledmdae
namespace Go.Proofs.Ytpbmeeogledmdae
open Go.RowKit

set_option maxHeartbeats 2000000 in
set_option maxRecDepth 100000 in
theorem next_calls (b : Nat) (ar bg lv ax ay : Int) (g : Pt) (w : World) (hB : Blk w b #[.int .i64 ar, .int .i64 bg, .int .i64 lv, .int .i64 ax, .int .i64 ay] 87)
    (s1 : IntKind.i64.wrap (lv + dsP ax ay g.x g.y) = lv + dsP ax ay g.x g.y)
    (s2 : IntKind.i64.wrap (waN g.e g.l (lv + dsP ax ay g.x g.y) + g.s) = waN g.e g.l (lv + dsP ax ay g.x g.y) + g.s) :
    Calls Try.prog 25 #[.pointer (some ⟨b, 0, none⟩), .agg g.row] w fun e w' => e = .returned (.bool (waB g.e g.l (lv + dsP ax ay g.x g.y))) ∧ Mod (· = b) w w' ∧
      Blk w' b #[.int .i64 (lv + dsP ax ay g.x g.y), .int .i64 (waN g.e g.l (lv + dsP ax ay g.x g.y)), .int .i64 (waN g.e g.l (lv + dsP ax ay g.x g.y) + g.s), .int .i64 g.x, .int .i64 g.y] 87 := by
  have hdc := Lib.hid (fun w => dist_calls ax ay g.x g.y w)
  generalize dsP ax ay g.x g.y = d at s1 s2 hdc ⊢
  have hwc := Lib.hid (fun w => wait_calls g.e g.l (lv + d) w)
  generalize waB g.e g.l (lv + d) = wb at hwc ⊢
  generalize waN g.e g.l (lv + d) = wn at s2 hwc ⊢
  have hlt := hB.lt
  have hP := Blk.new w g.row 93
  have hB1 := hB.alloc (.cells g.row 93)
  have k0 : ∀ x : Later (fun _ => False) (w.alloc (.cells g.row 93)), x.val.cell? ⟨w.heap.size, 0, none⟩ = some (.int .i64 g.x) := fun x => x.cell (hP.cell (i := 0) rfl) (fun h => h)
  have k1 : ∀ x : Later (fun _ => False) (w.alloc (.cells g.row 93)), x.val.cell? ⟨w.heap.size, 1, none⟩ = some (.int .i64 g.y) := fun x => x.cell (hP.cell (i := 1) rfl) (fun h => h)
  have b2 : ∀ x : Later (fun _ => False) (w.alloc (.cells g.row 93)), x.val.cell? ⟨b, 2, none⟩ = some (.int .i64 lv) := fun x => x.cell (hB1.cell (i := 2) rfl) (fun h => h)
  have b3 : ∀ x : Later (fun _ => False) (w.alloc (.cells g.row 93)), x.val.cell? ⟨b, 3, none⟩ = some (.int .i64 ax) := fun x => x.cell (hB1.cell (i := 3) rfl) (fun h => h)
  have b4 : ∀ x : Later (fun _ => False) (w.alloc (.cells g.row 93)), x.val.cell? ⟨b, 4, none⟩ = some (.int .i64 ay) := fun x => x.cell (hB1.cell (i := 4) rfl) (fun h => h)
  replace hP := Lib.hid hP
  replace hB1 := Lib.hid hB1
  clear hB
  go_enter Try.func25, Try.ntmps25
  go_wp2_with fail
  refine wp_region_then (C := fun w' => ∃ x : Later (fun _ => False) (w.alloc (.cells g.row 93)), w' = x.val) 14 (by kernel_rfl) (by kernel_rfl) ⟨⟨_, (Mod.refl _ _).drew⟩, rfl⟩ ?_
  simp only [List.take_succ_cons, List.take_zero]
  repeat (go_big_quiet_step (((go_at_call 27; with_reducible exact Calls.later (hdc.out _)))))
  refine wpQuiet_nil ?_
  rintro _ ⟨x, rfl⟩
  have hBx := hB1.out.mod x.mod (fun h => h)
  have hPx := hP.out.mod x.mod (fun h => h)
  have hMx : Mod (· = b) w x.val := (((Mod.refl (fun _ => False) w).alloc _).trans x.mod).mono (fun _ _ h => h.elim)
  clear k0 k1 b2 b3 b4 hB1 hP hdc
  generalize x.val = w2 at *
  have c0 := hBx.cell (i := 0) rfl
  have f0 := hBx.froz 0
  replace hBx := Lib.hid hBx
  replace hPx := Lib.hid hPx
  replace hMx := Lib.hid hMx
  refine wpAny_ready (rs := [14]) (by kernel_rfl) (by simp) ?_
  refine AllReady.cons rfl (fun K hK => ?_) AllReady.nil
  go_simp
  refine hK _ _ ?_
  clear hK K
  refine wpAny_ready (rs := [15]) (by kernel_rfl) (by simp) ?_
  refine AllReady.cons rfl (fun K hK => ?_) AllReady.nil
  go_simp
  refine hK _ _ ?_
  clear hK K
  refine wpAny_ready (rs := [16]) (by kernel_rfl) (by simp) ?_
  refine AllReady.cons rfl (fun K hK => ?_) AllReady.nil
  go_simp
  refine hK _ _ ?_
  clear hK K
  refine wpAny_ready (rs := [17]) (by kernel_rfl) (by simp) ?_
  refine AllReady.cons rfl (fun K hK => ?_) AllReady.nil
  go_simp
  refine hK _ _ ?_
  clear hK K
  refine wpAny_done (by kernel_rfl) ?_ _
  go_wp2_with fail
  refine wp_world' (fun wx => Blk wx b #[.int .i64 (lv + d), .int .i64 bg, .int .i64 lv, .int .i64 ax, .int .i64 ay] 87 ∧ Blk wx w.heap.size g.row 93 ∧ Mod (· = b) w wx)
    ⟨hBx.out.set 0 _, hPx.out.other (show w.heap.size ≠ b by omega) _, hMx.out.setCell (p := ⟨b, 0, none⟩) (fun _ => rfl) _⟩ ?_
  clear hBx hPx hMx c0 f0 x w2
  rintro w3 ⟨hB3, hP3, hM3⟩
  have b0 : ∀ x : Later (fun _ => False) w3, x.val.cell? ⟨b, 0, none⟩ = some (.int .i64 (lv + d)) := fun x => x.cell (hB3.cell (i := 0) rfl) (fun h => h)
  have k2 : ∀ x : Later (fun _ => False) w3, x.val.cell? ⟨w.heap.size, 2, none⟩ = some (.int .i64 g.e) := fun x => x.cell (hP3.cell (i := 2) rfl) (fun h => h)
  have k3 : ∀ x : Later (fun _ => False) w3, x.val.cell? ⟨w.heap.size, 3, none⟩ = some (.int .i64 g.l) := fun x => x.cell (hP3.cell (i := 3) rfl) (fun h => h)
  replace hB3 := Lib.hid hB3
  replace hP3 := Lib.hid hP3
  replace hM3 := Lib.hid hM3
  refine wp_region_later (Mod.refl (fun _ => False) w3) (by kernel_rfl) (by kernel_rfl) ?_
  repeat (go_big_quiet_step (((go_at_call 47; with_reducible exact Calls.later (hwc.out _)))))
  refine wpQuiet_nil ?_
  rintro _ ⟨x, rfl⟩
  have hB4 := hB3.out.mod x.mod (fun h => h)
  have hP4 := hP3.out.mod x.mod (fun h => h)
  have hM4 : Mod (· = b) w x.val := hM3.out.trans (x.mod.mono (fun _ _ h => h.elim))
  clear b0 k2 k3 hB3 hP3 hM3
  generalize x.val = w4 at *
  have q0 : w4.cell? ⟨w.heap.size, 0, none⟩ = some (.int .i64 g.x) := hP4.cell (i := 0) rfl
  have q1 : w4.cell? ⟨w.heap.size, 1, none⟩ = some (.int .i64 g.y) := hP4.cell (i := 1) rfl
  have q4 : w4.cell? ⟨w.heap.size, 4, none⟩ = some (.int .i64 g.s) := hP4.cell (i := 4) rfl
  have c1 := hB4.cell (i := 1) rfl
  have c2 := hB4.cell (i := 2) rfl
  have c3 := hB4.cell (i := 3) rfl
  have c4 := hB4.cell (i := 4) rfl
  have f1 := hB4.froz 1
  have f2 := hB4.froz 2
  have f3 := hB4.froz 3
  have f4 := hB4.froz 4
  replace hB4 := Lib.hid hB4
  replace hM4 := Lib.hid hM4
  clear hP4 hwc
  have hne : ¬ w.heap.size = b := by omega
  have hne' : ¬ b = w.heap.size := by omega
  go_wp2_with fail
  go_region
  go_wp2
  go_ret
  exact ⟨rfl, (((hM4.out.setCell (p := ⟨b, 1, none⟩) (fun _ => rfl) _).setCell (p := ⟨b, 2, none⟩) (fun _ => rfl) _).setCell (p := ⟨b, 3, none⟩) (fun _ => rfl) _).setCell (p := ⟨b, 4, none⟩) (fun _ => rfl) _ |>.drew, (((hB4.out.set 1 _).set 2 _).set 3 _).set 4 _⟩
end Go.Proofs.Ytpbmeeogledmdae
