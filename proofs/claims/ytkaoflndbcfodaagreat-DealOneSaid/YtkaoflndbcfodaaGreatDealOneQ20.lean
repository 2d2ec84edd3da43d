/-
  The row 'DealOne': a pack of the texts Pe Pg Pd, pruned to what the row uses.
-/
import Derived.Test.YtkaoflndbcfodaaGreatDealOneQ19
namespace Go.Proofs.YtkaoflndbcfodaaGreat
section
section
open Go.RowKit
section
variable {ρ : Operand → Value} {o : Oper} {w : World} {x y z u : Operand}
theorem run_callTimes {a b c : Value} (ho : o.op = .call { callee := .value (.func 42), args := #[x, y, z], argTypes := #[59, 82, 38] }) (hx : ρ x = a) (hy : ρ y = b) (hz : ρ z = c)
  (hf : ρ (.func 42) = .func (.func 42) #[] #[] := by rfl) : (execOp ρ o).run Tryz.prog w = .ok (.enter 42 #[a, b, c]) w := by
 unfold execOp
 simp only [ho]
 go_simp
end
theorem totV_bd {v : Ve} {l : Rou2} {t : List Rq} (h : RightV v l t) : 0 ≤ totV v l t ∧ totV v l t ≤ 1048576 ∧ (0 ≤ v 3 ∧ v 3 ≤ 1048576) ∧ (timV v l t).2.2 = 0 := by
 obtain ⟨h0, h1, h2, h3, h4, _⟩ := tm_right h
 unfold totV timV
 omega
theorem totK_bd {fl : List Ve} {rows : List Rou2} {t : List Rq} (hP : PlnOk fl rows t) : ∀ k, k ≤ fl.length → 0 ≤ totK fl rows t k ∧ totK fl rows t k ≤ 1048576 * (k : Int)
 | 0, _ => by simp [totK]
 | k + 1, h => by
  have h1 := totK_bd hP k (by omega)
  have h2 := totV_bd (hP.right k (by omega))
  unfold totK
  omega
set_option maxHeartbeats 4000000 in
set_option maxRecDepth 100000 in
theorem total_calls {w : World} {F : Nat → Prop} {b gT gM N : Nat} {fl : List Ve} {rows : List Rou2} {t : List Rq} (hP : PlnOk fl rows t) (h : PlanAt w F b gT gM N fl rows t) :
  Calls Tryz.prog 21 #[.pointer (some ⟨b, 0, none⟩)] w fun e w' => e = .returned (.int .i64 (totP fl rows t)) ∧ Below w.heap.size w w' := by
 obtain ⟨qT, dT, cT, qs, h⟩ := h
 have hb0 := Lib.hid (fun k wx (hb : Below w.heap.size w wx) => times_calls (fl.getD k ve0 0) (fl.getD k ve0 1) (fl.getD k ve0 2) (fl.getD k ve0 3) (fl.getD k ve0 4) (qs.getD k (none, 0)).1 qT (qs.getD k (none, 0)).2 dT (rows.getD k []) t wx ((h.row k).below hb) (h.req.below hb))
 have hstp := Lib.hid (fun k (hk : k < fl.length) => (⟨totV_bd (hP.right k hk), totK_bd hP k (by omega)⟩ : (_ ∧ _)))
 have hfl := h.many.1
 have htb := h.req.big
 rw [List.length_map] at htb
 have hbox := h.box
 obtain ⟨aT, haT⟩ : ∃ aT : Addr, (⟨gT, 0, none⟩ : Addr) = aT := ⟨_, rfl⟩
 have hto := h.tours
 rw [haT] at hbox hto
 have hld := Lib.hid (fun k (hk : k < fl.length) wx (hb : Below w.heap.size w wx) => ld_tour (hto.below hb) hk)
 obtain ⟨tot, htot0, htotS, htotE⟩ : ∃ tot : Nat → Int, tot 0 = 0 ∧ (∀ k, tot (k + 1) = tot k + totV (fl.getD k ve0) (rows.getD k []) t ∧ tot k = totK fl rows t k) ∧ totP fl rows t = tot fl.length := ⟨totK fl rows t, rfl, fun _ => ⟨rfl, rfl⟩, rfl⟩
 rw [htotE]
 have k1 := hbox.cell (i := 1) rfl
 replace htotS := Lib.hid htotS
 replace htot0 := Lib.hid htot0
 replace hbox := Lib.hid hbox
 generalize hTT : t.length = T at *
 replace hTT := Lib.hid hTT
 clear h hto haT htotE hP
 go_enter Tryz.func21, Tryz.ntmps21
 go_wp2_with fail
 go_loopw [15, 2] (fun s15 s2 wx => ∃ k : Nat, k ≤ fl.length ∧ s15 = .int .i64 k ∧ s2 = .int .i64 (tot k) ∧ Below w.heap.size w wx) (fun s15 _ _ => fl.length - (intOf s15).toNat)
 case atStart => exact ⟨0, Nat.zero_le _, rfl, by rw [htot0.out], Below.refl _ _⟩
 case round =>
  obtain ⟨k, hk, rfl, rfl, hb⟩ := hrel
  by_cases hlt : k < fl.length
  ·have hltI : (k : Int) < (fl.length : Int) := by omega
   have hk0 : (0 : Int) ≤ (k : Int) := by omega
   have s1 : IntKind.i64.wrap ((k : Int) + 1) = (k : Int) + 1 := IntWalk.i64_in _ (by omega)
   have hl := hld.out k hlt wr hb
   obtain ⟨V, hV⟩ : ∃ V, (veR (fl.getD k ve0)).toArray = V := ⟨_, rfl⟩
   obtain ⟨Y, hY⟩ : ∃ Y, (trV (fl.getD k ve0) (qs.getD k (none, 0)) (rows.getD k []).length).toArray = Y := ⟨_, rfl⟩
   have hYs : Y.size = 6 := by rw [← hY]; rfl
   have hY1 : ∀ u ∈ Y.toList, u.oneCell' = true := by rw [← hY]; exact tr_one _ _ _
   have hYv : Y.extract 0 (0 + 5) = V := by rw [← hY, ← hV]; rfl
   have hYq : Y[5]? = some (.slice (qs.getD k (none, 0)).1 (rows.getD k []).length (qs.getD k (none, 0)).2) := by rw [← hY]; rfl
   have hY3 : Y[3]? = some (.int .i64 (fl.getD k ve0 3)) := by rw [← hY]; rfl
   have hb1 := hb0.out k
   change ∀ wx, Below w.heap.size w wx → Calls Tryz.prog 42 #[.agg (veR (fl.getD k ve0)).toArray, _, _] wx (TmPost wx (timV (fl.getD k ve0) (rows.getD k []) t)) at hb1
   rw [hV] at hb1
   rw [hY] at hl
   obtain ⟨⟨p1, p2, p3, p4⟩, p5⟩ := hstp.out k hlt
   obtain ⟨f1, f2⟩ := htotS.out k
   rw [← f2] at p5
   unfold totV at p1 p2 f1
   generalize fl.getD k ve0 3 = v3 at *
   clear hY hV
   obtain ⟨L, en, e0, hBe⟩ : ∃ L en e0, timV (fl.getD k ve0) (rows.getD k []) t = (L, en, e0) := ⟨_, _, _, rfl⟩
   rw [hBe] at hb1 p1 p2 p4 f1
   dsimp only at hb1 p1 p2 p4 f1
   clear hBe
   generalize (qs.getD k (none, 0)).1 = qk at *
   generalize (qs.getD k (none, 0)).2 = dk at *
   generalize (rows.getD k []).length = n at *
   have hpre := Lib.hid (show Blk (wr.alloc (.cells Y 84)) wr.heap.size Y 84 ∧ Below w.heap.size w (wr.alloc (.cells Y 84)) from ⟨Blk.new _ _ _, hb.alloc hb.size _⟩)
   have hsz := hb.size
   have s2 : IntKind.i64.wrap (en - v3) = en - v3 := IntWalk.i64_in _ (by omega)
   have s3 : IntKind.i64.wrap (tot k + (en - v3)) = tot k + (en - v3) := IntWalk.i64_in _ (by omega)
   have F1 := Lib.hid f1
   replace hl := Lib.hid hl
   replace hYs := Lib.hid hYs
   replace hY1 := Lib.hid hY1
   replace hYv := Lib.hid hYv
   replace hYq := Lib.hid hYq
   replace hY3 := Lib.hid hY3
   replace hb1 := Lib.hid hb1
   replace p4 := Lib.hid p4
   clear hb f1 f2
   go_upto_region 6 with (first | (refine wpList_v rfl (.pointer (some (aT.add (k * 6)))) (run_ixTr (k := k) rfl rfl rfl (by omega)) ?_) | (refine wpList_load_v rfl 84 _ rfl (aT.add (k * 6)) rfl _ hl.out ?_) |
    (refine wpList_store_new rfl 84 _ _ rfl rfl rfl _ Y _ rfl hYs.out.symm hY1.out (by rw [hYs.out]; kernel_rfl) ?_))
   generalize hg : wr.heap.size = g at *
   refine wp_world' (fun wx => Blk wx g Y 84 ∧ Below w.heap.size w wx) hpre.out ?_
   clear hpre hg hl
   rintro w1 ⟨hG, hb⟩
   have hm1 := (Mod.refl (fun _ => False) w).after hb
   have hlv := Lib.hid (fun (wx : World) (h : Mod (fun _ => False) w1 wx) => (by
    rw [load_part (P := Tryz.prog) wx g Y 84 (hG.mod h (fun h => h)) 0 5 (by rw [hYs.out]; omega) 59 _ Tryz.underlying59 rfl (by kernel_rfl), hYv.out] : (loadVar 59 ⟨g, 0, none⟩).run Tryz.prog wx = .ok (.agg V) wx))
   have hlq := Lib.hid (fun (wx : World) (h : Mod (fun _ => False) w1 wx) => run_cellSt ((hG.mod h (fun h => h)).cell hYq.out))
   have hlt := Lib.hid (fun (wx : World) (h : Mod (fun _ => False) w1 wx) => run_cellRq (((hbox.out.mod hm1 (fun h => h)).mod h (fun h => h)).cell (i := 0) rfl))
   have hbest := Lib.hid (fun (wx : World) (h : Mod (fun _ => False) w1 wx) => hb1.out wx (hb.trans (h.below hb.size (fun _ h => h.elim))))
   have hk3 := Lib.hid (fun (wx : World) (h : Mod (fun _ => False) w1 wx) => (hG.mod h (fun h => h)).cell hY3.out)
   replace hb := Lib.hid hb
   clear hG hm1 hb1
   refine wp_region_rove (X := Option Addr × Nat) (none, 0) (fun x => [(20, .pointer (some ⟨g, 0, none⟩)), (21, .agg V), (22, .pointer (some ⟨g, 5, none⟩)), (23, .slice qk n dk), (24, .pointer (some ⟨b, 0, none⟩)), (25, .pointer (some ⟨b, 0, none⟩)), (26, .pointer (some ⟨b, 0, none⟩)), (27, .slice qT T dT), (30, .int .i64 en), (31, .int .i64 e0), (6, .int .i64 en), (7, .int .i64 e0)] ++ [(28, .tuple #[.slice x.1 L.length x.2, .int .i64 en, .int .i64 e0]), (19, .tuple #[.slice x.1 L.length x.2, .int .i64 en, .int .i64 e0]), (29, .slice x.1 L.length x.2), (5, .slice x.1 L.length x.2)])
    (fun x d W' => Mod (fun _ => False) w1 W') (by kernel_rfl) (by kernel_rfl) (by kernel_rfl) (by kernel_rfl) (fun x => by kernel_rfl)
    (Mod.refl _ _).drew ?_ ?_
   ·intro aF hAF
    have E0 : ∀ x, (aF x).eval (.tmp 0) = .pointer (some ⟨b, 0, none⟩) := by intro x; rw [hAF]; kernel_rfl
    have E4 : ∀ x, (aF x).eval (.tmp 4) = .pointer (some ⟨g, 0, none⟩) := by intro x; rw [hAF]; kernel_rfl
    have T20 : ∀ x, (aF x).tmps[20]? = some (.pointer (some ⟨g, 0, none⟩)) := by intro x; rw [hAF]; kernel_rfl
    have E20 : ∀ x, (aF x).eval (.tmp 20) = .pointer (some ⟨g, 0, none⟩) := by intro x; rw [hAF]; kernel_rfl
    have T21 : ∀ x, (aF x).tmps[21]? = some (.agg V) := by intro x; rw [hAF]; kernel_rfl
    have E21 : ∀ x, (aF x).eval (.tmp 21) = .agg V := by intro x; rw [hAF]; kernel_rfl
    have T22 : ∀ x, (aF x).tmps[22]? = some (.pointer (some ⟨g, 5, none⟩)) := by intro x; rw [hAF]; kernel_rfl
    have E22 : ∀ x, (aF x).eval (.tmp 22) = .pointer (some ⟨g, 5, none⟩) := by intro x; rw [hAF]; kernel_rfl
    have T23 : ∀ x, (aF x).tmps[23]? = some (.slice qk n dk) := by intro x; rw [hAF]; kernel_rfl
    have E23 : ∀ x, (aF x).eval (.tmp 23) = .slice qk n dk := by intro x; rw [hAF]; kernel_rfl
    have T24 : ∀ x, (aF x).tmps[24]? = some (.pointer (some ⟨b, 0, none⟩)) := by intro x; rw [hAF]; kernel_rfl
    have E24 : ∀ x, (aF x).eval (.tmp 24) = .pointer (some ⟨b, 0, none⟩) := by intro x; rw [hAF]; kernel_rfl
    have T25 : ∀ x, (aF x).tmps[25]? = some (.pointer (some ⟨b, 0, none⟩)) := by intro x; rw [hAF]; kernel_rfl
    have E25 : ∀ x, (aF x).eval (.tmp 25) = .pointer (some ⟨b, 0, none⟩) := by intro x; rw [hAF]; kernel_rfl
    have T26 : ∀ x, (aF x).tmps[26]? = some (.pointer (some ⟨b, 0, none⟩)) := by intro x; rw [hAF]; kernel_rfl
    have E26 : ∀ x, (aF x).eval (.tmp 26) = .pointer (some ⟨b, 0, none⟩) := by intro x; rw [hAF]; kernel_rfl
    have T27 : ∀ x, (aF x).tmps[27]? = some (.slice qT T dT) := by intro x; rw [hAF]; kernel_rfl
    have E27 : ∀ x, (aF x).eval (.tmp 27) = .slice qT T dT := by intro x; rw [hAF]; kernel_rfl
    have T30 : ∀ x, (aF x).tmps[30]? = some (.int .i64 en) := by intro x; rw [hAF]; kernel_rfl
    have E30 : ∀ x, (aF x).eval (.tmp 30) = .int .i64 en := by intro x; rw [hAF]; kernel_rfl
    have T31 : ∀ x, (aF x).tmps[31]? = some (.int .i64 e0) := by intro x; rw [hAF]; kernel_rfl
    have E31 : ∀ x, (aF x).eval (.tmp 31) = .int .i64 e0 := by intro x; rw [hAF]; kernel_rfl
    have T6 : ∀ x, (aF x).tmps[6]? = some (.int .i64 en) := by intro x; rw [hAF]; kernel_rfl
    have E6 : ∀ x, (aF x).eval (.tmp 6) = .int .i64 en := by intro x; rw [hAF]; kernel_rfl
    have T7 : ∀ x, (aF x).tmps[7]? = some (.int .i64 e0) := by intro x; rw [hAF]; kernel_rfl
    have E7 : ∀ x, (aF x).eval (.tmp 7) = .int .i64 e0 := by intro x; rw [hAF]; kernel_rfl
    have T28 : ∀ x, (aF x).tmps[28]? = some (.tuple #[.slice x.1 L.length x.2, .int .i64 en, .int .i64 e0]) := by intro x; rw [hAF]; kernel_rfl
    have E28 : ∀ x, (aF x).eval (.tmp 28) = .tuple #[.slice x.1 L.length x.2, .int .i64 en, .int .i64 e0] := by intro x; rw [hAF]; kernel_rfl
    have T19 : ∀ x, (aF x).tmps[19]? = some (.tuple #[.slice x.1 L.length x.2, .int .i64 en, .int .i64 e0]) := by intro x; rw [hAF]; kernel_rfl
    have E19 : ∀ x, (aF x).eval (.tmp 19) = .tuple #[.slice x.1 L.length x.2, .int .i64 en, .int .i64 e0] := by intro x; rw [hAF]; kernel_rfl
    have T29 : ∀ x, (aF x).tmps[29]? = some (.slice x.1 L.length x.2) := by intro x; rw [hAF]; kernel_rfl
    have E29 : ∀ x, (aF x).eval (.tmp 29) = .slice x.1 L.length x.2 := by intro x; rw [hAF]; kernel_rfl
    have T5 : ∀ x, (aF x).tmps[5]? = some (.slice x.1 L.length x.2) := by intro x; rw [hAF]; kernel_rfl
    have E5 : ∀ x, (aF x).eval (.tmp 5) = .slice x.1 L.length x.2 := by intro x; rw [hAF]; kernel_rfl
    replace hAF := Lib.hid hAF
    refine ⟨?_, ?_, ?_, ?_, ?_, ?_, ?_, ?_, ?_, ?_, ?_, ?_, ?_, ?_, ?_, ?_, trivial⟩
    ·exact opOk3_quiet _ (by intro x t hd _; cases hd; exact T20 x) (fun _ => rfl) fun x d w' hd hc => sv (run_fldT rfl (E4 x) (fun _ => by kernel_rfl)) hc
    ·exact opOk3_quiet _ (by intro x t hd _; cases hd; exact T21 x) (fun _ => rfl) fun x d w' hd hc => sv (run_load1 rfl (E20 x) (hlv.out _ hc)) hc
    ·exact opOk3_quiet _ (by intro x t hd _; cases hd; exact T22 x) (fun _ => rfl) fun x d w' hd hc => sv (run_fldT rfl (E4 x) (fun _ => by kernel_rfl)) hc
    ·exact opOk3_quiet _ (by intro x t hd _; cases hd; exact T23 x) (fun _ => rfl) fun x d w' hd hc => sv (run_load1 rfl (E22 x) (hlq.out _ hc)) hc
    ·exact opOk3_quiet _ (by intro x t hd _; cases hd; exact T24 x) (fun _ => rfl) fun x d w' hd hc => sv (run_mov rfl (E0 x)) hc
    ·exact opOk3_quiet _ (by intro x t hd _; cases hd; exact T25 x) (fun _ => rfl) fun x d w' hd hc => sv (run_nilP rfl (E24 x)) hc
    ·exact opOk3_quiet _ (by intro x t hd _; cases hd; exact T26 x) (fun _ => rfl) fun x d w' hd hc => sv (run_fldT rfl (E25 x) (fun _ => by kernel_rfl)) hc
    ·exact opOk3_quiet _ (by intro x t hd _; cases hd; exact T27 x) (fun _ => rfl) fun x d w' hd hc => sv (run_load1 rfl (E26 x) (hlt.out _ hc)) hc
    ·exact opOk3_loud rfl fun x d w' hd hn hc => by
       refine sk (run_callTimes rfl (E21 x) (E23 x) (E27 x)) ((hbest.out w' hc).mono ?_)
       rintro e w'' ⟨q, dd, rfl, hb, -⟩
       exact ⟨_, rfl, (q, dd), (by rw [hAF.out]; exact agree_any (by kernel_rfl) (by kernel_rfl)), (by intro t hd _; cases hd; exact T28 _), hc.after hb⟩
    ·exact opOk3_quiet (fun x => .tuple #[.slice x.1 L.length x.2, .int .i64 en, .int .i64 e0]) (by intro x t hd _; cases hd; exact T19 x) (fun _ => rfl) fun x d w' hd hc => sv (run_mov rfl (E28 x)) hc
    ·exact opOk3_quiet (fun x => .slice x.1 L.length x.2) (by intro x t hd _; cases hd; exact T29 x) (fun _ => rfl) fun x d w' hd hc => sv (run_ext rfl (E19 x) rfl) hc
    ·exact opOk3_quiet _ (by intro x t hd _; cases hd; exact T30 x) (fun _ => rfl) fun x d w' hd hc => sv (run_ext rfl (E19 x) rfl) hc
    ·exact opOk3_quiet _ (by intro x t hd _; cases hd; exact T31 x) (fun _ => rfl) fun x d w' hd hc => sv (run_ext rfl (E19 x) rfl) hc
    ·exact opOk3_quiet (fun x => .slice x.1 L.length x.2) (by intro x t hd _; cases hd; exact T5 x) (fun _ => rfl) fun x d w' hd hc => sv (run_asg rfl (E29 x)) hc
    ·exact opOk3_quiet _ (by intro x t hd _; cases hd; exact T6 x) (fun _ => rfl) fun x d w' hd hc => sv (run_asg rfl (E30 x)) hc
    ·exact opOk3_quiet _ (by intro x t hd _; cases hd; exact T7 x) (fun _ => rfl) fun x d w' hd hc => sv (run_asg rfl (E31 x)) hc
   ·intro x d w' hd hc
    simp only [putAll, List.foldl_cons, List.foldl_nil, List.cons_append, List.nil_append, Act.put, List.setIfInBounds_toArray, List.set_cons_succ, List.set_cons_zero]
    obtain ⟨q, dq⟩ := x
    have k3 := hk3.out w' hc
    have hbw := hb.out.trans (hc.below hb.out.size (fun _ h => h.elim))
    replace hbw := Lib.hid hbw
    clear hc hd hb hlv hlq hlt hbest hYs hY1 hYv hYq hY3 hk3
    go_wp2_with fail
    go_roundw
    case rel => exact ⟨k + 1, by omega, by simp, by rw [F1.out], hbw.out⟩
    case measure => simp [intOf]; omega
  ·obtain rfl : k = fl.length := by omega
   replace hb := Lib.hid hb
   go_wp2_with fail
   go_ret
   exact ⟨rfl, hb.out⟩
end
end
section
open Go.RowKit
def rsV (rows : List Rou2) (qs : List (Option Addr × Nat)) (k : Nat) : List (List Value) := (List.range k).map fun i => [.slice (qs.getD i (none, 0)).1 (rows.getD i []).length (qs.getD i (none, 0)).2]
theorem rsV_len (rows : List Rou2) (qs : List (Option Addr × Nat)) (k : Nat) : ∀ x ∈ rsV rows qs k, x.length = 1 := by
 intro x hx
 obtain ⟨i, _, rfl⟩ := List.mem_map.1 hx
 rfl
theorem rsV_size (rows : List Rou2) (qs : List (Option Addr × Nat)) (k : Nat) : (rsV rows qs k).length = k := by simp [rsV]
theorem rsV_succ (rows : List Rou2) (qs : List (Option Addr × Nat)) {k : Nat} (hk : qs.length = k) (q : Option Addr) (d : Nat) : rsV rows (qs ++ [(q, d)]) (k + 1) = rsV rows qs k ++ [[.slice q (rows.getD k []).length d]] := by
 unfold rsV
 rw [List.range_succ, List.map_append]
 congr 1
 ·apply List.map_congr_left
  intro i hi
  have hi' := List.mem_range.1 hi
  have e : (qs ++ [(q, d)]).getD i (none, 0) = qs.getD i (none, 0) := by
   rw [List.getD_eq_getElem?_getD, List.getD_eq_getElem?_getD, List.getElem?_append_left (by omega)]
  rw [e]
 ·have e : (qs ++ [(q, d)]).getD k (none, 0) = (q, d) := by
   rw [List.getD_eq_getElem?_getD, List.getElem?_append_right (by omega), hk, Nat.sub_self]
   rfl
  simp only [List.map_cons, List.map_nil, e]
theorem rs_el : ElT Tryz.prog 106 82 1 24 := ⟨Tryz.underlying106, by kernel_rfl, by kernel_rfl, by kernel_rfl, by omega, by omega⟩
theorem rsl_rs (q : Option Addr) (n d : Nat) (w : World) : (Instr.buildSlice 106 1 #[(0, .slice q n d)]).run Tryz.prog w = .ok (.slice (some ⟨w.heap.size, 0, none⟩) 1 1) (w.alloc (.cells #[.slice q n d] 82)) := by kernel_rfl
theorem own_ne {w : World} {base n k : Nat} {E T : TypeId} {v : Value} {xs : List Value} (h : w.ownsRow base E n v k xs) {g g' : Nat} {C : Array Value} (hg : v.ownBlock = some g') (hB : Blk w g C T) (hT : T ≠ E) : g ≠ g' := by
 intro e
 rw [e] at hB
 rcases h.2 with ⟨hv, _⟩ | ⟨g2, cap', cur, hv, _, hh, _⟩
 ·rw [hv] at hg; cases hg
 ·rw [hv] at hg
  have e2 : g2 = g' := Option.some.inj hg
  rw [e2] at hh
  have hB' : w.heap[g']? = some (.cells C T (0, 0)) := hB
  rw [hh] at hB'
  cases hB'
  exact hT rfl
end
section
section
open Go.RowKit
theorem ClR.callN {l : Rou2} {p : Addr} {w W W' : World} {q : Option Addr} {d : Nat} (hm : Mod (fun _ => False) w W) (hb : Below W.heap.size W W') (hE : Els W' q 2 (l.map stV)) (hc : l.length ≤ d ∧ d ≤ 9223372036854775807) (hf : l ≠ [] → ∀ a, q = some a → W.heap.size ≤ a.block) : ClR l p w (q, d) true false W' :=
 ⟨W', hm.after hb, fun _ => ⟨hE, hc, fun h0 a ha => ⟨Nat.le_trans hm.size (hf h0 a ha), els_lt hE (fun e => h0 (List.map_eq_nil_iff.1 e)) ha⟩⟩, rfl⟩
section
variable {ρ : Operand → Value} {o : Oper} {w : World} {x y z u : Operand}
theorem run_callWout {a b : Value} (ho : o.op = .call { callee := .value (.func 35), args := #[x, y], argTypes := #[82, 3] }) (hx : ρ x = a) (hy : ρ y = b)
  (hf : ρ (.func 35) = .func (.func 35) #[] #[] := by rfl) : (execOp ρ o).run Tryz.prog w = .ok (.enter 35 #[a, b]) w := by
 unfold execOp
 simp only [ho]
 go_simp
theorem exec_delP {w' : World} {t k : TypeId} {b : Nat} {i : Int} (ho : o.op = .call { callee := .builtin .delete, args := #[x, y], argTypes := #[t, k] }) (hx : ρ x = .map (some b)) (hy : ρ y = .int .i64 i)
  (h : (Builtin.delete_ #[t, k] o.type #[.map (some b), .int .i64 i]).run Tryz.prog w = .ok (.tuple #[]) w') : (execOp ρ o).run Tryz.prog w = .ok (.value (.tuple #[])) w' := by
 unfold execOp
 simp only [ho, resolve, invoke, builtin, Sem.run_bind, Sem.run_pure, Result.andThen_ok, List.map_toArray, List.map_cons, List.map_nil, hx, hy, h]
theorem run_cellTr {p : Addr} {q : Option Addr} {n c : Nat} (h : w.cell? p = some (.slice q n c)) : (loadVar 85 p).run Tryz.prog w = .ok (.slice q n c) w := by go_simp
end
set_option maxHeartbeats 4000000 in
set_option maxRecDepth 100000 in
theorem ptake_calls {w : World} {F : Nat → Prop} {b gT gM N : Nat} {fl : List Ve} {rows : List Rou2} {t : List Rq} (hP : PlnOk fl rows t) (h : PlanAt w F b gT gM N fl rows t) (req : Int) (hq : wf64 req) :
  Calls Tryz.prog 14 #[.pointer (some ⟨b, 0, none⟩), .int .i64 req] w fun e w' => e = .returned (.int .i64 (ptakP rows req).2) ∧
   PlanAt w' (fun k => F k ∨ (w.heap.size ≤ k ∧ k < w'.heap.size)) b gT gM N fl (ptakP rows req).1 t ∧ Mod (fun k => k = gT ∨ k = gM) w w' := by
 by_cases he : whereP rows req < 0
 ·have e1 : ptakP rows req = (rows, 12) := if_pos he
  rw [e1]
  have hnone := whM_none he
  have hh : PlanAt w (fun k => F k ∨ (w.heap.size ≤ k ∧ k < w.heap.size)) b gT gM N fl rows t := by
   obtain ⟨qT, dT, cT, qs, h⟩ := h
   exact ⟨qT, dT, cT, qs, h.box, h.req, h.tb, h.tours, h.map, h.row, h.cap, fun i a ha hr => by have := h.rowB i a ha hr; exact ⟨.inl this.1, this.2⟩, fun a ha hr => by have := h.reqB a ha hr; exact ⟨.inl this.1, this.2⟩, .inl h.fb, .inl h.fT, .inl h.fM,
    h.ne1, h.ne2, h.ne3, fun k hk => by rcases hk with hk | hk; exact h.lt k hk; exact hk.2, h.len, h.lenq, h.many, h.tcap⟩
  obtain ⟨qT, dT, cT, qs, h⟩ := h
  have k2 := h.box.cell (i := 2) rfl
  have hl := h.map.getOk Tryz.underlying3 Tryz.underlying3 (t := 86) Tryz.underlying86 (by kernel_rfl) hq
  rw [hnone] at hl
  replace hl := Lib.hid hl
  replace hh := Lib.hid hh
  clear h hP hq he e1 hnone
  go_enter Tryz.func14, Tryz.ntmps14
  go_wp2_with (refine wpList_v rfl (.tuple #[.int .i64 0, .bool false]) (exec_lookOk rfl rfl rfl hl.out) ?_)
  go_ret
  exact ⟨rfl, hh.out, Mod.refl _ _⟩
 obtain ⟨i, hi0, hw0, hmem⟩ := where_some (by omega : 0 ≤ whereP rows req)
 have hi : i < fl.length := by rw [← hP.len]; exact hi0
 have e1 : ptakP rows req = (rows.set i (woP (rows.getD i []) req), 0) := by
  unfold ptakP
  rw [if_neg he, hw0, Int.toNat_natCast]
 have hkeep := take_keeps hP req
 have hwl := woP_len (rows.getD i []) req
 rw [e1] at hkeep ⊢
 dsimp only at hkeep ⊢
 have hwm := whM_take hP hi hw0 hkeep
 have hsome := whM_some (by omega : 0 ≤ whereP rows req)
 rw [hw0] at hsome
 have hr16 := (hP.right i hi).2.2.1
 obtain ⟨qT, dT, cT, qs, h⟩ := h
 have hput : ∀ wx, Below w.heap.size w wx → Calls Tryz.prog 35 #[.slice (qs.getD i (none, 0)).1 (rows.getD i []).length (qs.getD i (none, 0)).2, .int .i64 req] wx (WoPostN wx (rows.getD i []) req) := fun wx hb =>
  pwithoutN_calls (qs.getD i (none, 0)).1 (qs.getD i (none, 0)).2 (rows.getD i []) req wx ((h.row i).below hb) (by omega)
 unfold WoPostN at hput
 generalize hL : woP (rows.getD i []) req = L at *
 replace hL := Lib.hid hL
 replace hput := Lib.hid hput
 have hl := h.map.getOk Tryz.underlying3 Tryz.underlying3 (t := 86) Tryz.underlying86 (by kernel_rfl) hq
 rw [hsome] at hl
 obtain ⟨w2, hrun, hM2, hm2⟩ := h.map.delete Tryz.underlying3 (t := 86) Tryz.underlying86 hq 0
 rw [← hwm] at hM2
 have k2 := h.box.cell (i := 2) rfl
 have hto := els_modP h.tours hm2 (fun a ha _ e => (by cases ha; exact h.ne3 e))
 have hbx := h.box.mod hm2 (fun e => h.ne2 e)
 have hfl := h.many.1
 have hlen : i < (trs fl rows qs).length := by rw [trs_len]; exact hi
 have hT0 := h.lt gT h.fT
 have hM0 := h.lt gM h.fM
 have hbg : b ≠ gT ∧ b ≠ gM ∧ gT ≠ gM := ⟨h.ne1, h.ne2, h.ne3⟩
 have hrow2 := els_modP (h.row i) hm2 (fun a ha hR e => (h.rowB i a ha (fun e => hR (by rw [e]; rfl))).2.2 e)
 have hput2 : ∀ wx, Mod (fun _ => False) w2 wx → Calls Tryz.prog 35 #[.slice (qs.getD i (none, 0)).1 (rows.getD i []).length (qs.getD i (none, 0)).2, .int .i64 req] wx (fun e w' => Below wx.heap.size wx w' ∧ ∃ q d, e = .returned (.slice q L.length d) ∧ (L.length ≤ d ∧ d ≤ 9223372036854775807) ∧ Els w' q 2 (L.map stV) ∧ (L ≠ [] → ∀ a, q = some a → wx.heap.size ≤ a.block)) := fun wx hm => by
  have := pwithoutN_calls (qs.getD i (none, 0)).1 (qs.getD i (none, 0)).2 (rows.getD i []) req wx (els_modP hrow2 hm (fun _ _ _ h => h)) (by omega)
  unfold WoPostN at this
  rw [hL.out] at this
  exact this
 have hcell := fun wx (hb : Mod (fun _ => False) w2 wx) (j : Nat) (v : Value) (hj : (trV (fl.getD i ve0) (qs.getD i (none, 0)) (rows.getD i []).length)[j]? = some v) => (by
  have := (els_modP hto hb (fun _ _ _ h => h)).cells _ rfl i _ j v (trs_at fl rows qs hi) hj
  rwa [addr0P] at this : wx.cell? ⟨gT, i * 6 + j, none⟩ = some v)
 have htb2 : ∃ C, Blk w2 gT C 84 := by obtain ⟨C, hC⟩ := h.tb; exact ⟨C, hC.mod hm2 (fun e => h.ne3 e)⟩
 have hfz := Lib.hid (fun wx (hb : Mod (fun _ => False) w2 wx) => (by obtain ⟨C, hC⟩ := htb2; exact (hC.mod hb (fun h => h)).froz (i * 6 + 5) : wx.frozen? ⟨gT, i * 6 + 5, none⟩ = false))
 have hk5 := Lib.hid (fun wx (hb : Mod (fun _ => False) w2 wx) => hcell wx hb 5 _ rfl)
 have hlq := Lib.hid (fun wx (hb : Mod (fun _ => False) w2 wx) => run_cellSt (hk5.out wx hb))
 have hk1 := Lib.hid (fun wx (hb : Mod (fun _ => False) w2 wx) => run_cellTr ((hbx.mod hb (fun h => h)).cell (i := 1) rfl))
 have hset := Lib.hid (fun (C : Array Value) (wx : World) (hb : Mod (fun _ => False) w2 wx) (hB : Blk wx gT C 84) q d => (by
  have := els_setP hB (els_modP hto hb (fun _ _ _ h => h)) hlen (J := 5) (by omega) (.slice q L.length d)
  rwa [trs_set fl rows qs hi h.len h.lenq L q d hlen] at this : Els (wx.setCell ⟨gT, i * 6 + 5, none⟩ (.slice q L.length d)) (some ⟨gT, 0, none⟩) 6 (trs fl (rows.set i L) (qs.set i (q, d)))))
 have hH := Lib.hid h
 generalize (rows.getD i []).length = n at *
 generalize (qs.getD i (none, 0)).1 = qi at *
 generalize (qs.getD i (none, 0)).2 = di at *
 replace hwm := Lib.hid hwm
 replace hput2 := Lib.hid hput2
 replace hrun := Lib.hid hrun
 replace hl := Lib.hid hl
 replace hM2 := Lib.hid hM2
 replace htb2 := Lib.hid htb2
 replace hm2 := Lib.hid hm2
 clear h hto hlen hkeep hP he hcell hput hsome hw0 e1 hbx hrow2 hr16 hq hmem hi0
 go_enter Tryz.func14, Tryz.ntmps14
 go_upto_region 7 with (first | (refine wpList_v rfl (.tuple #[.int .i64 (i : Int), .bool true]) (exec_lookOk rfl rfl rfl hl.out) ?_) | (refine wpList_vw rfl _ (exec_delP rfl rfl rfl hrun.out) ?_))
 refine wp_region_rove (X := Option Addr × Nat) (none, 0) (fun x => [(25, .pointer (some ⟨b, 0, none⟩)), (26, .pointer (some ⟨b, 0, none⟩)), (27, .pointer (some ⟨b, 1, none⟩)), (28, .slice (some ⟨gT, 0, none⟩) fl.length cT), (29, .int .i64 (i : Int)), (30, .pointer (some ⟨b, 0, none⟩)), (31, .pointer (some ⟨b, 0, none⟩)), (32, .pointer (some ⟨b, 1, none⟩)), (33, .slice (some ⟨gT, 0, none⟩) fl.length cT), (34, .int .i64 (i : Int)), (35, .pointer (some ⟨gT, i * 6, none⟩)), (36, .pointer (some ⟨gT, i * 6 + 5, none⟩)), (37, .slice qi n di), (38, .int .i64 req), (40, .pointer (some ⟨gT, i * 6, none⟩)), (41, .pointer (some ⟨gT, i * 6 + 5, none⟩))] ++ [(39, .slice x.1 L.length x.2)])
  (fun x d W' => ClR L ⟨gT, i * 6 + 5, none⟩ w2 x (d 14) (d 17) W') (by kernel_rfl) (by kernel_rfl) (by kernel_rfl) (by kernel_rfl) (fun x => by kernel_rfl)
  (ClR.start (Mod.refl _ _).drew) ?_ ?_
 ·intro aF hAF
  have E0 : ∀ x, (aF x).eval (.tmp 0) = .pointer (some ⟨b, 0, none⟩) := by intro x; rw [hAF]; kernel_rfl
  have E1 : ∀ x, (aF x).eval (.tmp 1) = .int .i64 req := by intro x; rw [hAF]; kernel_rfl
  have E5 : ∀ x, (aF x).eval (.tmp 5) = .int .i64 (i : Int) := by intro x; rw [hAF]; kernel_rfl
  have T25 : ∀ x, (aF x).tmps[25]? = some (.pointer (some ⟨b, 0, none⟩)) := by intro x; rw [hAF]; kernel_rfl
  have E25 : ∀ x, (aF x).eval (.tmp 25) = .pointer (some ⟨b, 0, none⟩) := by intro x; rw [hAF]; kernel_rfl
  have T26 : ∀ x, (aF x).tmps[26]? = some (.pointer (some ⟨b, 0, none⟩)) := by intro x; rw [hAF]; kernel_rfl
  have E26 : ∀ x, (aF x).eval (.tmp 26) = .pointer (some ⟨b, 0, none⟩) := by intro x; rw [hAF]; kernel_rfl
  have T27 : ∀ x, (aF x).tmps[27]? = some (.pointer (some ⟨b, 1, none⟩)) := by intro x; rw [hAF]; kernel_rfl
  have E27 : ∀ x, (aF x).eval (.tmp 27) = .pointer (some ⟨b, 1, none⟩) := by intro x; rw [hAF]; kernel_rfl
  have T28 : ∀ x, (aF x).tmps[28]? = some (.slice (some ⟨gT, 0, none⟩) fl.length cT) := by intro x; rw [hAF]; kernel_rfl
  have E28 : ∀ x, (aF x).eval (.tmp 28) = .slice (some ⟨gT, 0, none⟩) fl.length cT := by intro x; rw [hAF]; kernel_rfl
  have T29 : ∀ x, (aF x).tmps[29]? = some (.int .i64 (i : Int)) := by intro x; rw [hAF]; kernel_rfl
  have E29 : ∀ x, (aF x).eval (.tmp 29) = .int .i64 (i : Int) := by intro x; rw [hAF]; kernel_rfl
  have T30 : ∀ x, (aF x).tmps[30]? = some (.pointer (some ⟨b, 0, none⟩)) := by intro x; rw [hAF]; kernel_rfl
  have E30 : ∀ x, (aF x).eval (.tmp 30) = .pointer (some ⟨b, 0, none⟩) := by intro x; rw [hAF]; kernel_rfl
  have T31 : ∀ x, (aF x).tmps[31]? = some (.pointer (some ⟨b, 0, none⟩)) := by intro x; rw [hAF]; kernel_rfl
  have E31 : ∀ x, (aF x).eval (.tmp 31) = .pointer (some ⟨b, 0, none⟩) := by intro x; rw [hAF]; kernel_rfl
  have T32 : ∀ x, (aF x).tmps[32]? = some (.pointer (some ⟨b, 1, none⟩)) := by intro x; rw [hAF]; kernel_rfl
  have E32 : ∀ x, (aF x).eval (.tmp 32) = .pointer (some ⟨b, 1, none⟩) := by intro x; rw [hAF]; kernel_rfl
  have T33 : ∀ x, (aF x).tmps[33]? = some (.slice (some ⟨gT, 0, none⟩) fl.length cT) := by intro x; rw [hAF]; kernel_rfl
  have E33 : ∀ x, (aF x).eval (.tmp 33) = .slice (some ⟨gT, 0, none⟩) fl.length cT := by intro x; rw [hAF]; kernel_rfl
  have T34 : ∀ x, (aF x).tmps[34]? = some (.int .i64 (i : Int)) := by intro x; rw [hAF]; kernel_rfl
  have E34 : ∀ x, (aF x).eval (.tmp 34) = .int .i64 (i : Int) := by intro x; rw [hAF]; kernel_rfl
  have T35 : ∀ x, (aF x).tmps[35]? = some (.pointer (some ⟨gT, i * 6, none⟩)) := by intro x; rw [hAF]; kernel_rfl
  have E35 : ∀ x, (aF x).eval (.tmp 35) = .pointer (some ⟨gT, i * 6, none⟩) := by intro x; rw [hAF]; kernel_rfl
  have T36 : ∀ x, (aF x).tmps[36]? = some (.pointer (some ⟨gT, i * 6 + 5, none⟩)) := by intro x; rw [hAF]; kernel_rfl
  have E36 : ∀ x, (aF x).eval (.tmp 36) = .pointer (some ⟨gT, i * 6 + 5, none⟩) := by intro x; rw [hAF]; kernel_rfl
  have T37 : ∀ x, (aF x).tmps[37]? = some (.slice qi n di) := by intro x; rw [hAF]; kernel_rfl
  have E37 : ∀ x, (aF x).eval (.tmp 37) = .slice qi n di := by intro x; rw [hAF]; kernel_rfl
  have T38 : ∀ x, (aF x).tmps[38]? = some (.int .i64 req) := by intro x; rw [hAF]; kernel_rfl
  have E38 : ∀ x, (aF x).eval (.tmp 38) = .int .i64 req := by intro x; rw [hAF]; kernel_rfl
  have T40 : ∀ x, (aF x).tmps[40]? = some (.pointer (some ⟨gT, i * 6, none⟩)) := by intro x; rw [hAF]; kernel_rfl
  have E40 : ∀ x, (aF x).eval (.tmp 40) = .pointer (some ⟨gT, i * 6, none⟩) := by intro x; rw [hAF]; kernel_rfl
  have T41 : ∀ x, (aF x).tmps[41]? = some (.pointer (some ⟨gT, i * 6 + 5, none⟩)) := by intro x; rw [hAF]; kernel_rfl
  have E41 : ∀ x, (aF x).eval (.tmp 41) = .pointer (some ⟨gT, i * 6 + 5, none⟩) := by intro x; rw [hAF]; kernel_rfl
  have T39 : ∀ x, (aF x).tmps[39]? = some (.slice x.1 L.length x.2) := by intro x; rw [hAF]; kernel_rfl
  have E39 : ∀ x, (aF x).eval (.tmp 39) = .slice x.1 L.length x.2 := by intro x; rw [hAF]; kernel_rfl
  replace hAF := Lib.hid hAF
  refine ⟨?_, ?_, ?_, ?_, ?_, ?_, ?_, ?_, ?_, ?_, ?_, ?_, ?_, ?_, ?_, ?_, ?_, ?_, trivial⟩
  ·exact opOk3_quiet _ (by intro x t hd _; cases hd; exact T25 x) (fun _ => rfl) fun x d w' hd hc => sv (run_mov rfl (E0 x)) hc
  ·exact opOk3_quiet _ (by intro x t hd _; cases hd; exact T26 x) (fun _ => rfl) fun x d w' hd hc => sv (run_nilP rfl (E25 x)) hc
  ·exact opOk3_quiet _ (by intro x t hd _; cases hd; exact T27 x) (fun _ => rfl) fun x d w' hd hc => sv (run_fldT rfl (E26 x) (fun _ => by kernel_rfl)) hc
  ·exact opOk3_quietL _ (by intro x t hd _; cases hd; exact T28 x) (fun _ => rfl) fun x d w' hd hn hc => sv (run_load1 rfl (E27 x) (hk1.out _ (ClR.m (by have n := hn 17 (by kernel_rfl); rw [n] at hc; exact hc)))) hc
  ·exact opOk3_quiet _ (by intro x t hd _; cases hd; exact T29 x) (fun _ => rfl) fun x d w' hd hc => sv (run_mov rfl (E5 x)) hc
  ·exact opOk3_quiet _ (by intro x t hd _; cases hd; exact T30 x) (fun _ => rfl) fun x d w' hd hc => sv (run_mov rfl (E0 x)) hc
  ·exact opOk3_quiet _ (by intro x t hd _; cases hd; exact T31 x) (fun _ => rfl) fun x d w' hd hc => sv (run_nilP rfl (E30 x)) hc
  ·exact opOk3_quiet _ (by intro x t hd _; cases hd; exact T32 x) (fun _ => rfl) fun x d w' hd hc => sv (run_fldT rfl (E31 x) (fun _ => by kernel_rfl)) hc
  ·exact opOk3_quietL _ (by intro x t hd _; cases hd; exact T33 x) (fun _ => rfl) fun x d w' hd hn hc => sv (run_load1 rfl (E32 x) (hk1.out _ (ClR.m (by have n := hn 17 (by kernel_rfl); rw [n] at hc; exact hc)))) hc
  ·exact opOk3_quiet _ (by intro x t hd _; cases hd; exact T34 x) (fun _ => rfl) fun x d w' hd hc => sv (run_mov rfl (E5 x)) hc
  ·exact opOk3_quiet _ (by intro x t hd _; cases hd; exact T35 x) (fun _ => rfl) fun x d w' hd hc => sv (run_ixTr0 rfl (E33 x) (E34 x) hi) hc
  ·exact opOk3_quiet _ (by intro x t hd _; cases hd; exact T36 x) (fun _ => rfl) fun x d w' hd hc => sv (run_fldT rfl (E35 x) (fun _ => by kernel_rfl)) hc
  ·exact opOk3_quietL _ (by intro x t hd _; cases hd; exact T37 x) (fun _ => rfl) fun x d w' hd hn hc => sv (run_load1 rfl (E36 x) (hlq.out _ (ClR.m (by have n := hn 17 (by kernel_rfl); rw [n] at hc; exact hc)))) hc
  ·exact opOk3_quiet _ (by intro x t hd _; cases hd; exact T38 x) (fun _ => rfl) fun x d w' hd hc => sv (run_mov rfl (E1 x)) hc
  ·exact opOk3_loud rfl fun x d w' hd hn hc => by
     have n2 : d 17 = false := hn 17 (by kernel_rfl)
     rw [n2] at hc
     have hm := hc.m
     refine sk (run_callWout rfl (E37 x) (E38 x)) ((hput2.out w' hm).mono ?_)
     rintro e w'' ⟨hb, q, dd, rfl, h2, h3, h4⟩
     refine ⟨_, rfl, (q, dd), (by rw [hAF.out]; exact agree_any (by kernel_rfl) (by kernel_rfl)), (by intro t hd _; cases hd; exact T39 _), ?_⟩
     show ClR L _ w2 _ true (d 17) _
     rw [n2]
     exact ClR.callN hm hb h3 h2 h4
  ·exact opOk3_quiet _ (by intro x t hd _; cases hd; exact T40 x) (fun _ => rfl) fun x d w' hd hc => sv (run_ixTr0 rfl (E28 x) (E29 x) hi) hc
  ·exact opOk3_quiet _ (by intro x t hd _; cases hd; exact T41 x) (fun _ => rfl) fun x d w' hd hc => sv (run_fldT rfl (E40 x) (fun _ => by kernel_rfl)) hc
  ·exact opOk3_loud rfl fun x d w' hd hn hc => by
     have n1 : d 14 = true := hd 14 (by kernel_rfl)
     have n2 : d 17 = false := hn 17 (by kernel_rfl)
     rw [n1, n2] at hc
     have hm := hc.m
     refine sk_s (run_storeS rfl (E41 x) (E39 x) (hk5.out w' hm) (hfz.out w' hm)) ⟨x, agree_same _ _, (by intro t hd _; cases hd), ?_⟩
     show ClR L _ w2 _ (d 14) true _
     rw [n1]
     exact hc.put
 ·intro x d w' hd hc
  simp only [putAll, List.foldl_cons, List.foldl_nil, List.cons_append, List.nil_append, Act.put, List.setIfInBounds_toArray, List.set_cons_succ, List.set_cons_zero]
  rw [hd 14 (by decide), hd 17 (by decide)] at hc
  obtain ⟨W4, hm4, hx, hW5⟩ := hc
  obtain ⟨q, dq⟩ := x
  obtain ⟨hE, hcap, hf⟩ := hx rfl
  dsimp only at hE hcap hf hW5 ⊢
  replace hW5 : w' = W4.setCell ⟨gT, i * 6 + 5, none⟩ (.slice q L.length dq) := hW5
  have hm5 := (Mod.refl (· = gT) W4).setCell (p := ⟨gT, i * 6 + 5, none⟩) (fun _ => rfl) (.slice q L.length dq)
  rw [← hW5] at hm5
  obtain ⟨C, hC⟩ := htb2.out
  have hC4 := hC.mod hm4 (fun h => h)
  have hT5 := hset.out C W4 hm4 hC4 q dq
  have hC5 := hC4.set (i * 6 + 5) (.slice q L.length dq)
  rw [← hW5] at hT5 hC5
  have hM5 := (hM2.out.mod hm4 (fun h => h)).mod hm5 (fun e => hbg.2.2 e.symm)
  have h2s := hm2.out.size
  have hall : Mod (fun k => k = gT ∨ k = gM) w w' := ((hm2.out.mono (fun _ _ h => .inr h)).trans (hm4.mono (fun _ _ h => h.elim))).trans (hm5.mono (fun _ _ h => .inl h))
  have hfin := Lib.hid (hH.out.next (N' := N) (i := i) (l := L) (q := q) (d := dq) hall hi hT5 ⟨_, hC5⟩ (by rw [hwm.out] at hM5 ⊢; exact hM5)
   (els_modP hE hm5 (fun a ha h0 e => (by have := hf (fun h => h0 (by rw [h]; rfl)) a ha; have : a.block = gT := e; omega)))
   hcap (fun h0 a ha => ⟨Nat.le_trans h2s (hf h0 a ha).1, Nat.lt_of_lt_of_le (hf h0 a ha).2 hm5.size⟩))
  replace hall := Lib.hid hall
  clear hE hcap hf hW5 hm5 hC hC4 hT5 hC5 hM5 hm4 hx hd hH hset hlq hk1 hk5 hfz hput2 hwm hM2 hm2 htb2 k2
  go_wp2_with fail
  go_ret
  exact ⟨rfl, ⟨qT, dT, cT, _, hfin.out⟩, hall.out⟩
end
end
end Go.Proofs.YtkaoflndbcfodaaGreat
