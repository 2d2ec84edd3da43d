/-
  Layer 13, the program's: Total.
-/
import Derived.Test.YtpbmeeogledmdaePc
import Derived.Test.YtpbmeeogledmdaeTmT
namespace Go.Proofs.Ytpbmeeogledmdae
open Go.RowKit

section
variable {ρ : Operand → Value} {o : Oper} {w : World} {x y z u : Operand}
theorem run_callTimes {a b c : Value} (ho : o.op = .call { callee := .value (.func 10), args := #[x, y, z], argTypes := #[47, 48, 30] }) (hx : ρ x = a) (hy : ρ y = b) (hz : ρ z = c)
    (hf : ρ (.func 10) = .func (.func 10) #[] #[] := by rfl) : (execOp ρ o).run Try.prog w = .ok (.enter 10 #[a, b, c]) w := by
  unfold execOp
  simp only [ho]
  go_simp
end
/-- a total is small, where all is right -/
theorem totV_bd {v : Ve} {l : Rou2} {t : List Rq} (h : RightV v l t) : 0 ≤ totV v l t ∧ totV v l t ≤ 1048576 ∧ (0 ≤ v 3 ∧ v 3 ≤ 1048576) ∧ (timV v l t).2.2 = 0 := by
  obtain ⟨h0, h1, h2, h3, h4, _⟩ := tm_right h
  unfold totV timV
  omega
theorem totK_bd {fl : List Ve} {rows : List Rou2} {t : List Rq} (hP : PlnOk fl rows t) : ∀ k, k ≤ fl.length → 0 ≤ totK fl rows t k ∧ totK fl rows t k ≤ 1048576 * (k : Int)
  | 0, _ => by simp [totK]
  | k + 1, h => by
    have h1 := totK_bd hP k (by omega)
    have h2 := totV_bd (hP.right k (by omega))
    unfold totK
    omega
set_option maxHeartbeats 4000000 in
set_option maxRecDepth 100000 in
theorem total_calls {w : World} {F : Nat → Prop} {b gT gM N : Nat} {fl : List Ve} {rows : List Rou2} {t : List Rq} (hP : PlnOk fl rows t) (h : PlanAt w F b gT gM N fl rows t) :
    Calls Try.prog 13 #[.pointer (some ⟨b, 0, none⟩)] w fun e w' => e = .returned (.int .i64 (totP fl rows t)) ∧ Below w.heap.size w w' := by
  obtain ⟨qT, dT, cT, qs, h⟩ := h
  have hb0 := Lib.hid (fun k wx (hb : Below w.heap.size w wx) => times_calls (fl.getD k ve0 0) (fl.getD k ve0 1) (fl.getD k ve0 2) (fl.getD k ve0 3) (fl.getD k ve0 4) (qs.getD k (none, 0)).1 qT (qs.getD k (none, 0)).2 dT (rows.getD k []) t wx ((h.row k).below hb) (h.req.below hb))
  have hstp := Lib.hid (fun k (hk : k < fl.length) => (⟨totV_bd (hP.right k hk), totK_bd hP k (by omega)⟩ : (_ ∧ _)))
  have hfl := h.many.1
  have htb := h.req.big
  rw [List.length_map] at htb
  have hbox := h.box
  obtain ⟨aT, haT⟩ : ∃ aT : Addr, (⟨gT, 0, none⟩ : Addr) = aT := ⟨_, rfl⟩
  have hto := h.tours
  rw [haT] at hbox hto
  have hld := Lib.hid (fun k (hk : k < fl.length) wx (hb : Below w.heap.size w wx) => ld_tour (hto.below hb) hk)
  obtain ⟨tot, htot0, htotS, htotE⟩ : ∃ tot : Nat → Int, tot 0 = 0 ∧ (∀ k, tot (k + 1) = tot k + totV (fl.getD k ve0) (rows.getD k []) t ∧ tot k = totK fl rows t k) ∧ totP fl rows t = tot fl.length := ⟨totK fl rows t, rfl, fun _ => ⟨rfl, rfl⟩, rfl⟩
  rw [htotE]
  have k1 := hbox.cell (i := 1) rfl
  replace htotS := Lib.hid htotS
  replace htot0 := Lib.hid htot0
  replace hbox := Lib.hid hbox
  generalize hTT : t.length = T at *
  replace hTT := Lib.hid hTT
  clear h hto haT htotE hP
  go_enter Try.func13, Try.ntmps13
  go_wp2_with fail
  go_loopw [15, 2] (fun s15 s2 wx => ∃ k : Nat, k ≤ fl.length ∧ s15 = .int .i64 k ∧ s2 = .int .i64 (tot k) ∧ Below w.heap.size w wx) (fun s15 _ _ => fl.length - (intOf s15).toNat)
  case atStart => exact ⟨0, Nat.zero_le _, rfl, by rw [htot0.out], Below.refl _ _⟩
  case round =>
    obtain ⟨k, hk, rfl, rfl, hb⟩ := hrel
    by_cases hlt : k < fl.length
    · have hltI : (k : Int) < (fl.length : Int) := by omega
      have hk0 : (0 : Int) ≤ (k : Int) := by omega
      have s1 : IntKind.i64.wrap ((k : Int) + 1) = (k : Int) + 1 := IntWalk.i64_in _ (by omega)
      have hl := hld.out k hlt wr hb
      obtain ⟨V, hV⟩ : ∃ V, (veR (fl.getD k ve0)).toArray = V := ⟨_, rfl⟩
      obtain ⟨Y, hY⟩ : ∃ Y, (trV (fl.getD k ve0) (qs.getD k (none, 0)) (rows.getD k []).length).toArray = Y := ⟨_, rfl⟩
      have hYs : Y.size = 6 := by rw [← hY]; rfl
      have hY1 : ∀ u ∈ Y.toList, u.oneCell' = true := by rw [← hY]; exact tr_one _ _ _
      have hYv : Y.extract 0 (0 + 5) = V := by rw [← hY, ← hV]; rfl
      have hYq : Y[5]? = some (.slice (qs.getD k (none, 0)).1 (rows.getD k []).length (qs.getD k (none, 0)).2) := by rw [← hY]; rfl
      have hY3 : Y[3]? = some (.int .i64 (fl.getD k ve0 3)) := by rw [← hY]; rfl
      have hb1 := hb0.out k
      change ∀ wx, Below w.heap.size w wx → Calls Try.prog 10 #[.agg (veR (fl.getD k ve0)).toArray, _, _] wx (TmPost wx (timV (fl.getD k ve0) (rows.getD k []) t)) at hb1
      rw [hV] at hb1
      rw [hY] at hl
      obtain ⟨⟨p1, p2, p3, p4⟩, p5⟩ := hstp.out k hlt
      obtain ⟨f1, f2⟩ := htotS.out k
      rw [← f2] at p5
      unfold totV at p1 p2 f1
      generalize fl.getD k ve0 3 = v3 at *
      clear hY hV
      obtain ⟨L, en, e0, hBe⟩ : ∃ L en e0, timV (fl.getD k ve0) (rows.getD k []) t = (L, en, e0) := ⟨_, _, _, rfl⟩
      rw [hBe] at hb1 p1 p2 p4 f1
      dsimp only at hb1 p1 p2 p4 f1
      clear hBe
      generalize (qs.getD k (none, 0)).1 = qk at *
      generalize (qs.getD k (none, 0)).2 = dk at *
      generalize (rows.getD k []).length = n at *
      have hpre := Lib.hid (show Blk (wr.alloc (.cells Y 78)) wr.heap.size Y 78 ∧ Below w.heap.size w (wr.alloc (.cells Y 78)) from ⟨Blk.new _ _ _, hb.alloc hb.size _⟩)
      have hsz := hb.size
      have s2 : IntKind.i64.wrap (en - v3) = en - v3 := IntWalk.i64_in _ (by omega)
      have s3 : IntKind.i64.wrap (tot k + (en - v3)) = tot k + (en - v3) := IntWalk.i64_in _ (by omega)
      have F1 := Lib.hid f1
      replace hl := Lib.hid hl
      replace hYs := Lib.hid hYs
      replace hY1 := Lib.hid hY1
      replace hYv := Lib.hid hYv
      replace hYq := Lib.hid hYq
      replace hY3 := Lib.hid hY3
      replace hb1 := Lib.hid hb1
      replace p4 := Lib.hid p4
      clear hb f1 f2
      go_upto_region 6 with (first | (refine wpList_v rfl (.pointer (some (aT.add (k * 6)))) (run_ixTr (k := k) rfl rfl rfl (by omega)) ?_) | (refine wpList_load_v rfl 78 _ rfl (aT.add (k * 6)) rfl _ hl.out ?_) |
        (refine wpList_store_new rfl 78 _ _ rfl rfl rfl _ Y _ rfl hYs.out.symm hY1.out (by rw [hYs.out]; kernel_rfl) ?_))
      generalize hg : wr.heap.size = g at *
      refine wp_world' (fun wx => Blk wx g Y 78 ∧ Below w.heap.size w wx) hpre.out ?_
      clear hpre hg hl
      rintro w1 ⟨hG, hb⟩
      have hm1 := (Mod.refl (fun _ => False) w).after hb
      have hlv := Lib.hid (fun (wx : World) (h : Mod (fun _ => False) w1 wx) => (by
        rw [load_part (P := Try.prog) wx g Y 78 (hG.mod h (fun h => h)) 0 5 (by rw [hYs.out]; omega) 47 _ Try.underlying47 rfl (by kernel_rfl), hYv.out] : (loadVar 47 ⟨g, 0, none⟩).run Try.prog wx = .ok (.agg V) wx))
      have hlq := Lib.hid (fun (wx : World) (h : Mod (fun _ => False) w1 wx) => run_cellSt ((hG.mod h (fun h => h)).cell hYq.out))
      have hlt := Lib.hid (fun (wx : World) (h : Mod (fun _ => False) w1 wx) => run_cellRq (((hbox.out.mod hm1 (fun h => h)).mod h (fun h => h)).cell (i := 0) rfl))
      have hbest := Lib.hid (fun (wx : World) (h : Mod (fun _ => False) w1 wx) => hb1.out wx (hb.trans (h.below hb.size (fun _ h => h.elim))))
      have hk3 := Lib.hid (fun (wx : World) (h : Mod (fun _ => False) w1 wx) => (hG.mod h (fun h => h)).cell hY3.out)
      replace hb := Lib.hid hb
      clear hG hm1 hb1
      refine wp_region_rove (X := Option Addr × Nat) (none, 0) (fun x => [(20, .pointer (some ⟨g, 0, none⟩)), (21, .agg V), (22, .pointer (some ⟨g, 5, none⟩)), (23, .slice qk n dk), (24, .pointer (some ⟨b, 0, none⟩)), (25, .pointer (some ⟨b, 0, none⟩)), (26, .pointer (some ⟨b, 0, none⟩)), (27, .slice qT T dT), (30, .int .i64 en), (31, .int .i64 e0), (6, .int .i64 en), (7, .int .i64 e0)] ++ [(28, .tuple #[.slice x.1 L.length x.2, .int .i64 en, .int .i64 e0]), (19, .tuple #[.slice x.1 L.length x.2, .int .i64 en, .int .i64 e0]), (29, .slice x.1 L.length x.2), (5, .slice x.1 L.length x.2)])
        (fun x d W' => Mod (fun _ => False) w1 W') (by kernel_rfl) (by kernel_rfl) (by kernel_rfl) (by kernel_rfl) (fun x => by kernel_rfl)
        (Mod.refl _ _).drew ?_ ?_
      · intro aF hAF
        have E0 : ∀ x, (aF x).eval (.tmp 0) = .pointer (some ⟨b, 0, none⟩) := by intro x; rw [hAF]; kernel_rfl
        have E4 : ∀ x, (aF x).eval (.tmp 4) = .pointer (some ⟨g, 0, none⟩) := by intro x; rw [hAF]; kernel_rfl
        have T20 : ∀ x, (aF x).tmps[20]? = some (.pointer (some ⟨g, 0, none⟩)) := by intro x; rw [hAF]; kernel_rfl
        have E20 : ∀ x, (aF x).eval (.tmp 20) = .pointer (some ⟨g, 0, none⟩) := by intro x; rw [hAF]; kernel_rfl
        have T21 : ∀ x, (aF x).tmps[21]? = some (.agg V) := by intro x; rw [hAF]; kernel_rfl
        have E21 : ∀ x, (aF x).eval (.tmp 21) = .agg V := by intro x; rw [hAF]; kernel_rfl
        have T22 : ∀ x, (aF x).tmps[22]? = some (.pointer (some ⟨g, 5, none⟩)) := by intro x; rw [hAF]; kernel_rfl
        have E22 : ∀ x, (aF x).eval (.tmp 22) = .pointer (some ⟨g, 5, none⟩) := by intro x; rw [hAF]; kernel_rfl
        have T23 : ∀ x, (aF x).tmps[23]? = some (.slice qk n dk) := by intro x; rw [hAF]; kernel_rfl
        have E23 : ∀ x, (aF x).eval (.tmp 23) = .slice qk n dk := by intro x; rw [hAF]; kernel_rfl
        have T24 : ∀ x, (aF x).tmps[24]? = some (.pointer (some ⟨b, 0, none⟩)) := by intro x; rw [hAF]; kernel_rfl
        have E24 : ∀ x, (aF x).eval (.tmp 24) = .pointer (some ⟨b, 0, none⟩) := by intro x; rw [hAF]; kernel_rfl
        have T25 : ∀ x, (aF x).tmps[25]? = some (.pointer (some ⟨b, 0, none⟩)) := by intro x; rw [hAF]; kernel_rfl
        have E25 : ∀ x, (aF x).eval (.tmp 25) = .pointer (some ⟨b, 0, none⟩) := by intro x; rw [hAF]; kernel_rfl
        have T26 : ∀ x, (aF x).tmps[26]? = some (.pointer (some ⟨b, 0, none⟩)) := by intro x; rw [hAF]; kernel_rfl
        have E26 : ∀ x, (aF x).eval (.tmp 26) = .pointer (some ⟨b, 0, none⟩) := by intro x; rw [hAF]; kernel_rfl
        have T27 : ∀ x, (aF x).tmps[27]? = some (.slice qT T dT) := by intro x; rw [hAF]; kernel_rfl
        have E27 : ∀ x, (aF x).eval (.tmp 27) = .slice qT T dT := by intro x; rw [hAF]; kernel_rfl
        have T30 : ∀ x, (aF x).tmps[30]? = some (.int .i64 en) := by intro x; rw [hAF]; kernel_rfl
        have E30 : ∀ x, (aF x).eval (.tmp 30) = .int .i64 en := by intro x; rw [hAF]; kernel_rfl
        have T31 : ∀ x, (aF x).tmps[31]? = some (.int .i64 e0) := by intro x; rw [hAF]; kernel_rfl
        have E31 : ∀ x, (aF x).eval (.tmp 31) = .int .i64 e0 := by intro x; rw [hAF]; kernel_rfl
        have T6 : ∀ x, (aF x).tmps[6]? = some (.int .i64 en) := by intro x; rw [hAF]; kernel_rfl
        have E6 : ∀ x, (aF x).eval (.tmp 6) = .int .i64 en := by intro x; rw [hAF]; kernel_rfl
        have T7 : ∀ x, (aF x).tmps[7]? = some (.int .i64 e0) := by intro x; rw [hAF]; kernel_rfl
        have E7 : ∀ x, (aF x).eval (.tmp 7) = .int .i64 e0 := by intro x; rw [hAF]; kernel_rfl
        have T28 : ∀ x, (aF x).tmps[28]? = some (.tuple #[.slice x.1 L.length x.2, .int .i64 en, .int .i64 e0]) := by intro x; rw [hAF]; kernel_rfl
        have E28 : ∀ x, (aF x).eval (.tmp 28) = .tuple #[.slice x.1 L.length x.2, .int .i64 en, .int .i64 e0] := by intro x; rw [hAF]; kernel_rfl
        have T19 : ∀ x, (aF x).tmps[19]? = some (.tuple #[.slice x.1 L.length x.2, .int .i64 en, .int .i64 e0]) := by intro x; rw [hAF]; kernel_rfl
        have E19 : ∀ x, (aF x).eval (.tmp 19) = .tuple #[.slice x.1 L.length x.2, .int .i64 en, .int .i64 e0] := by intro x; rw [hAF]; kernel_rfl
        have T29 : ∀ x, (aF x).tmps[29]? = some (.slice x.1 L.length x.2) := by intro x; rw [hAF]; kernel_rfl
        have E29 : ∀ x, (aF x).eval (.tmp 29) = .slice x.1 L.length x.2 := by intro x; rw [hAF]; kernel_rfl
        have T5 : ∀ x, (aF x).tmps[5]? = some (.slice x.1 L.length x.2) := by intro x; rw [hAF]; kernel_rfl
        have E5 : ∀ x, (aF x).eval (.tmp 5) = .slice x.1 L.length x.2 := by intro x; rw [hAF]; kernel_rfl
        replace hAF := Lib.hid hAF
        refine ⟨?_, ?_, ?_, ?_, ?_, ?_, ?_, ?_, ?_, ?_, ?_, ?_, ?_, ?_, ?_, ?_, trivial⟩
        · exact opOk3_quiet _ (by intro x t hd _; cases hd; exact T20 x) (fun _ => rfl) fun x d w' hd hc => sv (run_fldT rfl (E4 x) (fun _ => by kernel_rfl)) hc
        · exact opOk3_quiet _ (by intro x t hd _; cases hd; exact T21 x) (fun _ => rfl) fun x d w' hd hc => sv (run_load1 rfl (E20 x) (hlv.out _ hc)) hc
        · exact opOk3_quiet _ (by intro x t hd _; cases hd; exact T22 x) (fun _ => rfl) fun x d w' hd hc => sv (run_fldT rfl (E4 x) (fun _ => by kernel_rfl)) hc
        · exact opOk3_quiet _ (by intro x t hd _; cases hd; exact T23 x) (fun _ => rfl) fun x d w' hd hc => sv (run_load1 rfl (E22 x) (hlq.out _ hc)) hc
        · exact opOk3_quiet _ (by intro x t hd _; cases hd; exact T24 x) (fun _ => rfl) fun x d w' hd hc => sv (run_mov rfl (E0 x)) hc
        · exact opOk3_quiet _ (by intro x t hd _; cases hd; exact T25 x) (fun _ => rfl) fun x d w' hd hc => sv (run_nilP rfl (E24 x)) hc
        · exact opOk3_quiet _ (by intro x t hd _; cases hd; exact T26 x) (fun _ => rfl) fun x d w' hd hc => sv (run_fldT rfl (E25 x) (fun _ => by kernel_rfl)) hc
        · exact opOk3_quiet _ (by intro x t hd _; cases hd; exact T27 x) (fun _ => rfl) fun x d w' hd hc => sv (run_load1 rfl (E26 x) (hlt.out _ hc)) hc
        · exact opOk3_loud rfl fun x d w' hd hn hc => by
              refine sk (run_callTimes rfl (E21 x) (E23 x) (E27 x)) ((hbest.out w' hc).mono ?_)
              rintro e w'' ⟨q, dd, rfl, hb, -⟩
              exact ⟨_, rfl, (q, dd), (by rw [hAF.out]; exact agree_any (by kernel_rfl) (by kernel_rfl)), (by intro t hd _; cases hd; exact T28 _), hc.after hb⟩
        · exact opOk3_quiet (fun x => .tuple #[.slice x.1 L.length x.2, .int .i64 en, .int .i64 e0]) (by intro x t hd _; cases hd; exact T19 x) (fun _ => rfl) fun x d w' hd hc => sv (run_mov rfl (E28 x)) hc
        · exact opOk3_quiet (fun x => .slice x.1 L.length x.2) (by intro x t hd _; cases hd; exact T29 x) (fun _ => rfl) fun x d w' hd hc => sv (run_ext rfl (E19 x) rfl) hc
        · exact opOk3_quiet _ (by intro x t hd _; cases hd; exact T30 x) (fun _ => rfl) fun x d w' hd hc => sv (run_ext rfl (E19 x) rfl) hc
        · exact opOk3_quiet _ (by intro x t hd _; cases hd; exact T31 x) (fun _ => rfl) fun x d w' hd hc => sv (run_ext rfl (E19 x) rfl) hc
        · exact opOk3_quiet (fun x => .slice x.1 L.length x.2) (by intro x t hd _; cases hd; exact T5 x) (fun _ => rfl) fun x d w' hd hc => sv (run_asg rfl (E29 x)) hc
        · exact opOk3_quiet _ (by intro x t hd _; cases hd; exact T6 x) (fun _ => rfl) fun x d w' hd hc => sv (run_asg rfl (E30 x)) hc
        · exact opOk3_quiet _ (by intro x t hd _; cases hd; exact T7 x) (fun _ => rfl) fun x d w' hd hc => sv (run_asg rfl (E31 x)) hc
      · intro x d w' hd hc
        simp only [putAll, List.foldl_cons, List.foldl_nil, List.cons_append, List.nil_append, Act.put, List.setIfInBounds_toArray, List.set_cons_succ, List.set_cons_zero]
        obtain ⟨q, dq⟩ := x
        have k3 := hk3.out w' hc
        have hbw := hb.out.trans (hc.below hb.out.size (fun _ h => h.elim))
        replace hbw := Lib.hid hbw
        clear hc hd hb hlv hlq hlt hbest hYs hY1 hYv hYq hY3 hk3
        go_wp2_with fail
        go_roundw
        case rel => exact ⟨k + 1, by omega, by simp, by rw [F1.out], hbw.out⟩
        case measure => simp [intOf]; omega
    · obtain rfl : k = fl.length := by omega
      replace hb := Lib.hid hb
      go_wp2_with fail
      go_ret
      exact ⟨rfl, hb.out⟩
end Go.Proofs.Ytpbmeeogledmdae
