/-
  The row 'DealWatches': a pack of the texts Dwt28, pruned to what the row uses.
-/
import Derived.Test.YtkaoflndbcfodaaGreatDealWatchesQ32
namespace Go.Proofs.YtkaoflndbcfodaaGreat
section
open Go.RowKit
theorem rwsL_set (L : List Pc) (i : Nat) (p : Pc) : rwsL (L.set i p) = (rwsL L).set i p.rows := by
  unfold rwsL
  rw [List.map_set]
theorem getD_setR {Rs : List (List Rou2)} {i j : Nat} {x : List Rou2} (hi : i < Rs.length) : (Rs.set i x).getD j [] = if i = j then x else Rs.getD j [] := getD_set28 _ _ _ hi
theorem right_take {fl : List Ve} {Rs : List (List Rou2)} {t : List Rq} {H : List Int} {r k : Nat} (hr : r < H.length) (hk : H.getD r 0 = (k : Int)) (hkR : k < Rs.length) (hP : PlnOk fl (Rs.getD k []) t) : rightR (Rs.set k (ptakP (Rs.getD k []) (r : Int)).1) H H.length = false := by
  cases h : rightR (Rs.set k (ptakP (Rs.getD k []) (r : Int)).1) H H.length with
  | false => rfl
  | true =>
    have h1 := (rightR_iff.1 h r hr).1
    rw [hk, Int.toNat_natCast, getD_setR hkR, if_pos rfl, take_where hP] at h1
    exact absurd rfl h1.1
theorem right_put {fl : List Ve} {Rs : List (List Rou2)} {t : List Rq} {H : List Int} {r k : Nat} (hH : HoldsR Rs H) (hr : r < H.length) (hkR : k < Rs.length) (hP : PlnOk fl (Rs.getD k []) t) :
    rightR (Rs.set k (pputP fl (Rs.getD k []) t (r : Int)).1) H H.length = ((pputP fl (Rs.getD k []) t (r : Int)).2.2 != 0) := by
  by_cases h0 : (pputP fl (Rs.getD k []) t (r : Int)).2.2 = 0
  · have e : ((pputP fl (Rs.getD k []) t (r : Int)).2.2 != 0) = false := by rw [h0]; rfl
    rw [e]
    obtain ⟨_, _, _, _, _, _, _, _, hw, _⟩ := put_ok hP ((put_c0 hP).2 h0)
    have hne : (k : Int) ≠ H.getD r 0 := fun e => by
      have := ((hH r hr).2 k).2 e
      omega
    cases h : rightR (Rs.set k (pputP fl (Rs.getD k []) t (r : Int)).1) H H.length with
    | false => rfl
    | true =>
      have h1 := (rightR_iff.1 h r hr).2 k (by rw [List.length_set]; exact hkR) hne
      rw [getD_setR hkR, if_pos rfl, put_where hP h0] at h1
      exact absurd (.inl rfl) h1
  · have e : ((pputP fl (Rs.getD k []) t (r : Int)).2.2 != 0) = true := by simpa using h0
    rw [e, put_wno hP h0]
    have : Rs.set k (Rs.getD k []) = Rs := by
      apply List.ext_getElem?
      intro j
      rw [List.getElem?_set]
      by_cases hkj : k = j
      · subst hkj
        rw [if_pos rfl, if_pos hkR, List.getD_eq_getElem?_getD, List.getElem?_eq_getElem hkR]
        rfl
      · rw [if_neg hkj]
    rw [this]
    exact holds_right hH
theorem BoR.holds {w : World} {B0 : Nat} {t : List Rq} {gB : Nat} {CB : Array Value} {L : List Pc} {d gP cP : Nat} {qK : Option Addr} {cK dd gR : Nat} {F : Nat → Prop} {fls : List (List Ve)} {Rs : List (List Rou2)} {H : List Int} {qF : Option Addr} {cF : Nat} {pf : List (Option Addr × Nat)} {cR : Nat} {pr : List (Option Addr × Nat)} {qss : List (List (Option Addr × Nat))} {qT : Option Addr} {cT : Nat} {qH : Option Addr} {cH : Nat}
    (h : BoR w B0 t gB CB L d gP cP qK cK dd gR F fls Rs H qF cF pf cR pr qss qT cT qH cH) : HoldsR (rwsL L) H ∧ ∀ r, r < H.length → 0 ≤ H.getD r 0 ∧ H.getD r 0 < (L.length : Int) := by
  have h1 := rsH_holds h.ok.new (by rw [h.ok.tl]; exact h.ok.hl) h.ok.ok
  have h2 : HoldsR (rwsL L) H := holdsR_of (by rw [rsH_len]; unfold rwsL; rw [List.length_map]; exact h.len.symm) (fun c => by
    rw [rwsL_at, ← h.ok.rs]
    by_cases hc : c < fls.length
    · exact (h.eq c hc).2.1.symm
    · rw [h.ok.rs, List.getD_eq_getElem?_getD, List.getElem?_eq_none (by rw [rsH_len]; omega), List.getD_eq_getElem?_getD, List.getElem?_eq_none (by rw [h.len]; omega)]
      rfl) h1
  exact ⟨h2, fun r hr => by have := (h2 r hr).1; unfold rwsL at this; rw [List.length_map] at this; exact this⟩
set_option maxHeartbeats 8000000 in
set_option maxRecDepth 100000 in
theorem DealWatches_walk (p pw : Option Addr) (cp cw : Nat) (B W : List Int) (n wd k nn wh : Int) (out : Bool) (w : World) (hA : DrA w p B n wd) (hW : DrA w pw W 0 0) (hnn : 0 ≤ nn ∧ nn < 256) (hwh : 0 ≤ wh ∧ wh < 256) :
    Calls Tryz.prog 4 #[.agg (ddC p cp B n wd k pw W cw nn), .int .u8 wh, .bool out] w fun e w' => e = .returned (.bool true) ∧ Below w.heap.size w w' := by
  have hbo := Lib.hid (fun wx (hb : Below w.heap.size w wx) => both_calls p pw cp cw B W n wd k nn wx (hA.below hb) (hW.below hb) hnn)
  obtain ⟨C, hC⟩ : ∃ C, ddC p cp B n wd k pw W cw nn = C := ⟨_, rfl⟩
  have hc6 : C.size = 6 := by rw [← hC]; rfl
  rw [hC] at hbo ⊢
  clear hA hW hnn hC
  go_enter Tryz.func4, Tryz.ntmps4
  go_upto_region 1 with fail
  refine wp_world' (fun wx => Blk wx w.heap.size C 26 ∧ Below w.heap.size w wx) ⟨Blk.new _ _ _, new_below _ _⟩ ?_
  rintro w1 ⟨hB, hb⟩
  go_wp2_with fail
  refine (works28_calls w1).mono ?_
  rintro e w2 ⟨rfl, hb2⟩
  have hB2 := hB.mod ((Mod.refl (fun _ => False) _).after hb2) (fun h => h)
  replace hb2 := hb.trans (hb2.mono hb.size)
  have hl1 := Lib.hid (run_load_row' (P := Tryz.prog) w2 w.heap.size 26 C 26 _ hB2 Tryz.underlying26 rfl (by rw [hc6]; kernel_rfl))
  have hd1 := hbo.out w2 hb2
  clear hB hb hB2 hbo
  go_wp2_with (refine wpList_load_v rfl 26 _ rfl ⟨w.heap.size, 0, none⟩ rfl _ hl1.out ?_)
  refine hd1.mono ?_
  clear hd1 hl1
  rintro e w3 ⟨hb3, B0, t, gB, cB, CB, L, d, gP, cP, qK, cK, dd, gR, F, fls, Rs, H, qF, cF, pf, cR, pr, qss, qT, cT, qH, cH, hB0, rfl, hR⟩
  have hbw := hb2.trans (hb3.mono hb2.size)
  have hB0w : w.heap.size ≤ B0 := Nat.le_trans hb2.size hB0
  clear hb2 hb3
  obtain ⟨hho, hv⟩ := hR.holds
  have hri := dright_calls hR.dl hR.pcs hv
  rw [rightB_R, holds_right hho] at hri
  have hn4 := hR.ok.many
  have hH8 := hR.ok.hl
  have hLn := hR.len
  have hlo := hR.lo
  obtain ⟨Ln, hLl⟩ : ∃ Ln, L.length = Ln := ⟨_, rfl⟩
  obtain ⟨Hn, hHn⟩ : ∃ Hn, H.length = Hn := ⟨_, rfl⟩
  rw [hHn] at hH8
  have hLn4 : 1 ≤ Ln ∧ Ln ≤ 4 := by omega
  rw [hLl]
  replace hho := Lib.hid hho
  replace hv := Lib.hid hv
  replace hbw := Lib.hid hbw
  replace hLl := Lib.hid hLl
  replace hHn := Lib.hid hHn
  replace hLn := Lib.hid hLn
  replace hR := Lib.hid hR
  go_wp2_with fail
  refine hri.mono ?_
  clear hri
  rintro e w4 ⟨rfl, hb4⟩
  have hm4 := (Mod.refl (fun _ => False) w3).after hb4
  have hl3 := Lib.hid (run_cI28 ((hR.out.rd.box.mod hm4 (fun h => h)).cell (i := 3) rfl))
  rw [hHn.out] at hl3
  have hbw4 := Lib.hid (hbw.out.trans (hb4.mono hbw.out.size))
  have hpls := Lib.hid (hR.out.pls.below hb4)
  have hpcs := Lib.hid (hR.out.pcs.below hb4)
  have hdl := Lib.hid (hR.out.dl.below hb4)
  have hhol := Lib.hid (hR.out.hol.below hb4)
  have hB4 : B0 ≤ w4.heap.size := Nat.le_trans hlo.2.2.2.1 hm4.size
  clear hb4 hm4 hbw
  by_cases hH0 : Hn = 0
  · have hH0I : ((Hn : Int) == 0) = true := by rw [hH0]; rfl
    replace hH0 := Lib.hid hH0
    go_wp2_with (refine wpList_load_v rfl 35 _ rfl ⟨dd, 3, none⟩ rfl _ hl3.out ?_)
    go_ret
    exact ⟨rfl, hbw4.out⟩
  · have hH0I : ((Hn : Int) == 0) = false := beq_eq_false_iff_ne.2 (by omega)
    have hm0 : (0 : Int) < (Hn : Int) := by omega
    have hmb : (Hn : Int) ≤ 9223372036854775807 := by omega
    obtain ⟨r, hrE⟩ : ∃ r : Nat, (r : Int) = wh % (Hn : Int) := ⟨(wh % (Hn : Int)).toNat, by have := Int.emod_nonneg wh (show (Hn : Int) ≠ 0 by omega); omega⟩
    have hrH : r < Hn := by have := Int.emod_lt_of_pos wh hm0; omega
    replace hrE := Lib.hid hrE
    have hrHL : r < H.length := by rw [hHn.out]; exact hrH
    obtain ⟨aH, haH⟩ := hhol.out.some_of (k := r) (by rw [List.length_map]; exact hrHL)
    subst haH
    obtain ⟨v1, v2⟩ := hv.out r hrHL
    have hcH0 := inv_cell28 hhol.out (i := r) hrHL
    obtain ⟨k, hk⟩ := Int.eq_ofNat_of_zero_le v1
    rw [hk] at hcH0 v2
    have hkL : k < L.length := by omega
    have hkn : k < Ln := by rw [← hLl.out]; exact hkL
    have hcH := Lib.hid (run_i64S9 hcH0)
    have hRw : (rwsL L).length = L.length := by unfold rwsL; rw [List.length_map]
    replace hk := Lib.hid hk
    clear hcH0 v1 v2
    go_upto_region 8 with (refine wpList_load_v rfl 35 _ rfl ⟨dd, 3, none⟩ rfl _ hl3.out ?_)
    go_upto_region 9 with (first | (refine wpList_load_v rfl 35 _ rfl ⟨dd, 3, none⟩ rfl _ hl3.out ?_) | (refine wpList_v rfl (.int .i64 (r : Int)) (run_remD rfl rfl rfl hwh.1 hm0 hrE.out hmb) ?_))
    cases out with
    | true =>
      have hcP := Lib.hid (run_cellPl (ptr_cell28 hpls.out hkL))
      have hput := hpcs.out.take hB4 hkL (r : Int) (by unfold wf64; omega)
      have hpk := hpcs.out.get hkL
      have hoF := hpk.own
      have hge := hpk.2.2
      have hPk := hpk.2.1
      have hwz : 0 ≤ whereP ((rwsL L).getD k []) (r : Int) := ((hho.out r hrHL).2 k).2 hk.out.symm
      have hrt := right_take (Rs := rwsL L) (H := H) (fl := (L.getD k pc0).fl) (t := t) hrHL hk.out (by rw [hRw]; exact hkL) (by rw [rwsL_at]; exact hPk)
      rw [rwsL_at] at hwz hrt
      have hz : (ptakP (L.getD k pc0).rows (r : Int)).2 = 0 := by unfold ptakP; rw [if_neg (by omega)]
      rw [hz] at hput
      have hgS : ∀ q, (q = (L.getD k pc0).gT ∨ q = (L.getD k pc0).gM) → w.heap.size ≤ q := fun q hq => by
        rcases hq with rfl | rfl
        · exact Nat.le_trans hB0w (hge _ hoF.2.1)
        · exact Nat.le_trans hB0w (hge _ hoF.2.2.1)
      obtain ⟨bk, hbk⟩ : ∃ bk, (L.getD k pc0).b = bk := ⟨_, rfl⟩
      rw [hbk] at hcP hput
      replace hbk := Lib.hid hbk
      replace hrt := Lib.hid hrt
      clear hz hwz hpk hPk
      go_wp2_with (first | (refine wpList_load_v rfl 35 _ rfl ⟨dd, 3, none⟩ rfl _ hl3.out ?_) | (refine wpList_v rfl (.pointer (some (aH.add r))) (run_ixIn (k := r) rfl rfl rfl hrH) ?_) | (refine wpList_load_v rfl 3 _ rfl (aH.add r) rfl _ hcH.out ?_) | (refine wpList_v rfl (.pointer (some ((⟨gB, 0, none⟩ : Addr).add k))) (run_ixPl (k := k) rfl rfl rfl hkn) ?_) | (refine wpList_load_v rfl 42 _ rfl ((⟨gB, 0, none⟩ : Addr).add k) rfl _ hcP.out ?_))
      refine hput.mono ?_
      clear hput hcP hcH hl3
      rintro e w5 ⟨rfl, hm5, F', hF', hP5⟩
      have hdl5 := hdl.out.turn (p := { L.getD k pc0 with rows := (ptakP (L.getD k pc0).rows (r : Int)).1, F := F' }) hpcs.out hkL hm5 rfl hF'
      have hri := dright_calls hdl5 hP5 (by rw [List.length_set]; exact hv.out)
      rw [rightB_R, rwsL_set] at hri
      simp only at hri
      rw [hrt.out] at hri
      have hb5 := hbw4.out.trans (hm5.below hbw4.out.size hgS)
      replace hb5 := Lib.hid hb5
      clear hdl5 hm5 hF' hP5 hdl hpcs hpls hhol hgS hoF hge
      go_wp2_with fail
      refine hri.mono ?_
      clear hri
      rintro e w6 ⟨rfl, hb6⟩
      have hb7 := Lib.hid (hb5.out.trans (hb6.mono hb5.out.size))
      clear hb6
      go_wp2_with fail
      go_ret
      exact ⟨rfl, hb7.out⟩
    | false =>
      obtain ⟨k2, hk2⟩ : ∃ k2 : Nat, (k2 : Int) = ((k : Int) + 1) % (Ln : Int) := ⟨(((k : Int) + 1) % (Ln : Int)).toNat, by have := Int.emod_nonneg ((k : Int) + 1) (show (Ln : Int) ≠ 0 by omega); omega⟩
      have hk2n : k2 < Ln := by have := Int.emod_lt_of_pos ((k : Int) + 1) (show (0 : Int) < (Ln : Int) by omega); omega
      have hkL2 : k2 < L.length := by rw [hLl.out]; exact hk2n
      replace hk2 := Lib.hid hk2
      have hk0 : (0 : Int) ≤ (k : Int) + 1 := by omega
      have hL0 : (0 : Int) < (Ln : Int) := by omega
      have hLb : (Ln : Int) ≤ 9223372036854775807 := by omega
      have s1 : IntKind.i64.wrap ((k : Int) + 1) = (k : Int) + 1 := IntWalk.i64_in _ (by omega)
      clear hkL
      have hkL := hkL2
      have hcP := Lib.hid (run_cellPl (ptr_cell28 hpls.out hkL))
      have hNk := (hR.out.eq k2 (by rw [← hLn.out]; exact hkL)).2.2
      have hput := hpcs.out.put hB4 hkL (by omega) (r : Int) (by unfold wf64; omega)
      have hpk := hpcs.out.get hkL
      have hoF := hpk.own
      have hge := hpk.2.2
      have hPk := hpk.2.1
      have hrt := right_put (Rs := rwsL L) (H := H) (fl := (L.getD k2 pc0).fl) (t := t) hho.out hrHL (by rw [hRw]; exact hkL) (by rw [rwsL_at]; exact hPk)
      rw [rwsL_at] at hrt
      have hgS : ∀ q, (q = (L.getD k2 pc0).gT ∨ q = (L.getD k2 pc0).gM) → w.heap.size ≤ q := fun q hq => by
        rcases hq with rfl | rfl
        · exact Nat.le_trans hB0w (hge _ hoF.2.1)
        · exact Nat.le_trans hB0w (hge _ hoF.2.2.1)
      obtain ⟨bk, hbk⟩ : ∃ bk, (L.getD k2 pc0).b = bk := ⟨_, rfl⟩
      rw [hbk] at hcP hput
      obtain ⟨z, hz⟩ : ∃ z, (pputP (L.getD k2 pc0).fl (L.getD k2 pc0).rows t (r : Int)).2.2 = z := ⟨_, rfl⟩
      rw [hz] at hput hrt
      replace hbk := Lib.hid hbk
      replace hrt := Lib.hid hrt
      clear hz hpk hPk hNk
      go_wp2_with (first | (refine wpList_load_v rfl 35 _ rfl ⟨dd, 3, none⟩ rfl _ hl3.out ?_) | (refine wpList_v rfl (.pointer (some (aH.add r))) (run_ixIn (k := r) rfl rfl rfl hrH) ?_) | (refine wpList_load_v rfl 3 _ rfl (aH.add r) rfl _ hcH.out ?_) | (refine wpList_v rfl (.int .i64 (k2 : Int)) (run_remD rfl rfl rfl hk0 hL0 hk2.out hLb) ?_) | (refine wpList_v rfl (.pointer (some ((⟨gB, 0, none⟩ : Addr).add k2))) (run_ixPl (k := k2) rfl rfl rfl hk2n) ?_) | (refine wpList_load_v rfl 42 _ rfl ((⟨gB, 0, none⟩ : Addr).add k2) rfl _ hcP.out ?_))
      refine hput.mono ?_
      clear hput hcP hcH hl3
      rintro e w5 ⟨rfl, hm5, F', hF', hP5⟩
      have hdl5 := hdl.out.turn (p := { L.getD k2 pc0 with N := (L.getD k2 pc0).N + 1, rows := (pputP (L.getD k2 pc0).fl (L.getD k2 pc0).rows t (r : Int)).1, F := F' }) hpcs.out hkL hm5 rfl hF'
      have hri := dright_calls hdl5 hP5 (by rw [List.length_set]; exact hv.out)
      rw [rightB_R, rwsL_set] at hri
      simp only at hri
      rw [hrt.out] at hri
      have hb5 := hbw4.out.trans (hm5.below hbw4.out.size hgS)
      replace hb5 := Lib.hid hb5
      clear hdl5 hm5 hF' hP5 hdl hpcs hpls hhol hgS hoF hge
      go_wp2_with fail
      refine hri.mono ?_
      clear hri
      rintro e w6 ⟨rfl, hb6⟩
      have hb7 := Lib.hid (hb5.out.trans (hb6.mono hb5.out.size))
      clear hb6
      by_cases hz0 : z = 0
      · subst hz0
        go_wp2_with fail
        go_ret
        exact ⟨rfl, hb7.out⟩
      · have d1 : (z == 0) = false := beq_eq_false_iff_ne.2 hz0
        have d2 : (z != 0) = true := by rw [bne, d1]; rfl
        go_wp2_with fail
        go_ret
        exact ⟨rfl, hb7.out⟩
end
end Go.Proofs.YtkaoflndbcfodaaGreat
