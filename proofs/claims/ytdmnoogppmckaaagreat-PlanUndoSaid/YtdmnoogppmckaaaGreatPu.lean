/-
  Layer 13: PlanUndo: the plain law, the walk.
-/
import Derived.Test.YtdmnoogppmckaaaGreatPs
import Derived.Test.YtdmnoogppmckaaaGreatTr
namespace Go.Proofs.YtdmnoogppmckaaaGreat
open Go.RowKit

theorem put_price {fl : List Ve} {rows : List Rou2} {t : List Rq} (hP : PlnOk fl rows t) (req : Int) : (pputP fl rows t req).2 = ((prcP fl rows t req).2.1, (prcP fl rows t req).2.2) := by
  by_cases h : (prcP fl rows t req).2.2 = 0
  · obtain ⟨i, a, b, _, _, _, _, _, _, _, _, _, h1, h2⟩ := put_ok hP h
    rw [h1, h2]
  · rw [put_no h]
    have h0 : (prcP fl rows t req).2.1 = 0 := by
      unfold prcP at h ⊢
      by_cases h1 : req < 0 ∨ (t.length : Int) ≤ req
      · rw [if_pos h1]
      rw [if_neg h1] at h ⊢
      by_cases h2 : 0 ≤ whereP rows req
      · rw [if_pos h2]
      rw [if_neg h2] at h ⊢
      cases hk : prcK fl rows t req fl.length with
      | none => rfl
      | some p => rw [hk] at h; exact absurd rfl h
    rw [h0]
theorem take_put {fl : List Ve} {rows : List Rou2} {t : List Rq} (hP : PlnOk fl rows t) {req : Int} (h : (prcP fl rows t req).2.2 = 0) : ptakP (pputP fl rows t req).1 req = (rows, 0) := by
  have hk := put_keeps hP req
  obtain ⟨i, a, b, hi, hab, hb, _, hr, hw, _, _, _, h1, h2⟩ := put_ok hP h
  rw [h2] at hk ⊢
  dsimp only at hk ⊢
  have hil : i < rows.length := by rw [hP.len]; exact hi
  have hg : (rows.set i (withL (rows.getD i []) req a b)).getD i [] = withL (rows.getD i []) req a b := by rw [getD_setS, if_pos ⟨rfl, hil⟩]
  have hwi : whereP (rows.set i (withL (rows.getD i []) req a b)) req = i := where_one hk (s := (req, 0)) (by rw [hg]; exact (withL_in hab hb).2 (.inl rfl))
  unfold ptakP
  rw [hwi, if_neg (by omega), Int.toNat_natCast, hg, woP_withL (fun s hs => where_getD hw hs) hab, List.set_set]
  congr 1
  rw [List.getD_eq_getElem?_getD, List.getElem?_eq_getElem hil]
  exact List.set_getElem_self _
theorem put_no' {fl : List Ve} {rows : List Rou2} {t : List Rq} {req : Int} (h : (prcP fl rows t req).2.2 ≠ 0) : (pputP fl rows t req).1 = rows := by rw [put_no h]
theorem allQ_nil (rows : List Rou2) : allQ rows [] = [] := rfl
set_option maxHeartbeats 8000000 in
set_option maxRecDepth 100000 in
theorem PlanUndo_walk (p : Option Addr) (c : Nat) (B : List Int) (n wd k f : Int) (pA : Option Addr) (cA : Nat) (acts : List (Int × Int)) (wh : Int) (w : World) (hA : DrA w p B n wd) (hf : 0 ≤ f ∧ f < 256) (hE : Els w pA 2 ((acts.take 30).map acV)) (hbl : acts.length ≤ 9223372036854775807) (hr : AcRg acts) (hwh : 0 ≤ wh ∧ wh < 256) :
    Calls Tryz.prog 5 #[.agg (ptC p c B n wd k f), .slice pA acts.length cA, .int .u8 wh] w fun e w' => e = .returned (.bool true) ∧ Below w.heap.size w w' := by
  have hTl : (ptT B n wd).length ≤ 10 := by
    have : (ptT B n wd).length = ptN n := drT_len _ _ _ _
    have := hA.nb
    unfold ptN at *
    omega
  obtain ⟨C, hC⟩ : ∃ C, ptC p c B n wd k f = C := ⟨_, rfl⟩
  have hc5 : C.size = 5 := by rw [← hC]; rfl
  have hdn := Lib.hid (fun wx (hb : Below w.heap.size w wx) => done_calls p c B n wd k f pA cA acts wx (hA.below hb) hf (hE.below hb) hbl hr)
  rw [hC] at hdn ⊢
  have hl0 := Lib.hid (fun wx (h : Blk wx w.heap.size C 38) => run_load_row (P := Tryz.prog) wx w.heap.size 38 C _ _ h Tryz.underlying38 rfl (by rw [hc5]; kernel_rfl))
  have hB0 := Lib.hid (Blk.new w C 38)
  have hb0 := Lib.hid (new_below w (.cells C 38))
  replace hc5 := Lib.hid hc5
  clear hC hA hE hr
  generalize ptF B n f = F at *
  generalize ptT B n wd = T at *
  go_enter Tryz.func5, Tryz.ntmps5
  go_wp2_with fail
  refine (works13_calls _).mono ?_
  rintro e w1 ⟨rfl, hb1⟩
  have hl1 := Lib.hid (hl0.out w1 (hB0.out.mod ((Mod.refl (fun _ => False) _).after hb1) (fun h => h)))
  replace hb1 := Lib.hid (hb0.out.trans (hb1.mono hb0.out.size))
  clear hl0 hB0 hb0
  go_wp2_with (refine wpList_load_v rfl 38 _ rfl ⟨w.heap.size, 0, none⟩ rfl _ hl1.out ?_)
  refine (hdn.out _ hb1.out).mono ?_
  intro e w2 hD
  have hb2 := Lib.hid (hb1.out.trans (hD.low.mono hb1.out.size))
  obtain ⟨b, gT, gM, N, rows, q, q', d, d', wp, rfl, hN, hP, _, _, _, hq1⟩ := hD
  have hlow : Hid (w.heap.size ≤ gT ∧ w.heap.size ≤ gM) := Lib.hid (by have := hq1.size; have := hb1.out.size; have := hP.gB; omega)
  clear hdn hl1 hb1 hq1
  have hwp := Lib.hid hP.gB
  by_cases hT0 : T.length = 0
  · obtain rfl : T = [] := List.length_eq_zero_iff.1 hT0
    have hal := Lib.hid (hP.allE (R := []) (by omega) (allQ_nil rows))
    unfold AqPost at hal
    clear hP
    go_wp2_with fail
    refine hal.out.mono ?_
    rintro e w3 ⟨⟨qA, dA, rfl, _⟩, hb3⟩
    have hb4 := Lib.hid (hb2.out.trans (hb3.mono hb2.out.size))
    clear hb3 hal
    go_wp2_with fail
    go_ret
    exact ⟨rfl, hb4.out⟩
  · obtain ⟨M, hM⟩ : ∃ M, T.length = M := ⟨_, rfl⟩
    rw [hM] at hT0 hTl ⊢
    have hMI : (0 : Int) < (M : Int) := by omega
    have hMn : ¬ (M : Int) = 0 := by omega
    have e1 := Int.emod_nonneg wh hMn
    have e2 := Int.emod_lt_of_pos wh hMI
    obtain ⟨r, hr⟩ : ∃ r : Nat, (r : Int) = wh % (M : Int) := ⟨(wh % (M : Int)).toNat, by omega⟩
    have hw : wf64 (r : Int) := by unfold wf64; omega
    have hwh0 := hwh.1
    have hM9 : (M : Int) ≤ 9223372036854775807 := by omega
    have hrl : rows.length ≤ 100000 := by have := hP.ok.len; have := hP.ok.many; omega
    have hpp := put_price hP.ok (r : Int)
    have htp := fun h => take_put hP.ok (req := (r : Int)) h
    have hnp := fun h => put_no' (fl := F) (rows := rows) (t := T) (req := (r : Int)) h
    obtain ⟨v, pr, ec, hX⟩ : ∃ v pr ec, prcP F rows T (r : Int) = (v, pr, ec) := ⟨_, _, _, rfl⟩
    obtain ⟨R, ri, ec2, hY⟩ : ∃ R ri ec2, pputP F rows T (r : Int) = (R, ri, ec2) := ⟨_, _, _, rfl⟩
    rw [hX] at hpp htp hnp
    rw [hY] at hpp htp hnp
    dsimp only at hpp htp hnp
    obtain ⟨rfl, rfl⟩ : ri = pr ∧ ec2 = ec := by simpa using hpp
    obtain ⟨tot, htot⟩ : ∃ tot, totP F rows T = tot := ⟨_, rfl⟩
    have hro := Lib.hid hP.routes
    replace hP := Lib.hid hP
    replace htp := Lib.hid htp
    replace hnp := Lib.hid hnp
    replace hX := Lib.hid hX
    replace hY := Lib.hid hY
    replace htot := Lib.hid htot
    replace hM := Lib.hid hM
    replace hr := Lib.hid hr
    clear hpp e1 e2
    go_wp2_with (first | (refine wpList_v rfl (.int .i64 r) (run_remD rfl rfl rfl hwh0 hMI hr.out hM9) ?_))
    refine hro.out.mono ?_
    intro e w3 hR
    obtain ⟨hb3, qR, dR, rfl, hdR, hR⟩ := hR.at_
    have hz := hwp.out
    have hO := Lib.hid hR
    replace hP := Lib.hid (hP.out.below hb3)
    replace hb2 := Lib.hid (hb2.out.trans (hb3.mono hb2.out.size))
    clear hR hro hb3 hdR hr
    have hp := hP.out.totalE htot.out
    go_wp2_with fail
    refine hp.mono ?_
    clear hp
    rintro e w4 ⟨rfl, hb3⟩
    replace hO := Lib.hid (hO.out.below hb3)
    replace hP := Lib.hid (hP.out.below hb3)
    replace hb2 := Lib.hid (hb2.out.trans (hb3.mono hb2.out.size))
    clear hb3
    have hp := hP.out.priceE hX.out hw
    go_wp2_with fail
    refine hp.mono ?_
    clear hp
    rintro e w5 ⟨rfl, hb3⟩
    replace hO := Lib.hid (hO.out.below hb3)
    replace hP := Lib.hid (hP.out.below hb3)
    replace hb2 := Lib.hid (hb2.out.trans (hb3.mono hb2.out.size))
    clear hb3
    have hp := hP.out.routes
    go_wp2_with fail
    refine hp.mono ?_
    clear hp
    intro e w6 hR
    obtain ⟨hb3, qR2, dR2, rfl, _, hR⟩ := hR.at_
    replace hO := Lib.hid (hO.out.below hb3)
    replace hP := Lib.hid (hP.out.below hb3)
    replace hb2 := Lib.hid (hb2.out.trans (hb3.mono hb2.out.size))
    have hsm := hR.sameE (c := dR2) (d := dR) hO.out hrl
    clear hb3 hR
    go_wp2_with fail
    refine hsm.mono ?_
    clear hsm
    rintro e w7 ⟨rfl, hb3⟩
    replace hO := Lib.hid (hO.out.below hb3)
    replace hP := Lib.hid (hP.out.below hb3)
    replace hb2 := Lib.hid (hb2.out.trans (hb3.mono hb2.out.size))
    clear hb3
    have hp := hP.out.totalE htot.out
    go_wp2_with fail
    refine hp.mono ?_
    clear hp
    rintro e w8 ⟨rfl, hb3⟩
    replace hO := Lib.hid (hO.out.below hb3)
    replace hP := Lib.hid (hP.out.below hb3)
    replace hb2 := Lib.hid (hb2.out.trans (hb3.mono hb2.out.size))
    clear hb3
    have hp := hP.out.put (by omega) (r : Int) hw
    rw [hY.out] at hp
    dsimp only at hp
    go_wp2_with fail
    refine hp.mono ?_
    clear hp hP
    rintro e w9 ⟨rfl, hP, hm⟩
    replace hO := Lib.hid (hO.out.mod hm (fun k hk e => by have := hwp.out; omega))
    replace hb2 := Lib.hid (hb2.out.trans (hm.below hb2.out.size (fun k hk => by have := hlow.out; omega)))
    replace hP := Lib.hid hP
    clear hm
    by_cases hec : ec2 = 0
    · subst hec
      have hp := hP.out.take (r : Int) hw
      rw [htp.out rfl] at hp
      dsimp only at hp
      clear hP hY htp hnp
      go_wp2_with fail
      refine hp.mono ?_
      clear hp
      rintro e w10 ⟨rfl, hP, hm⟩
      replace hO := Lib.hid (hO.out.mod hm (fun k hk e => by have := hwp.out; omega))
      replace hb2 := Lib.hid (hb2.out.trans (hm.below hb2.out.size (fun k hk => by have := hlow.out; omega)))
      replace hP := Lib.hid hP
      clear hm
      have hp := hP.out.priceE hX.out hw
      go_wp2_with fail
      refine hp.mono ?_
      clear hp
      rintro e w11 ⟨rfl, hb3⟩
      replace hO := Lib.hid (hO.out.below hb3)
      replace hP := Lib.hid (hP.out.below hb3)
      replace hb2 := Lib.hid (hb2.out.trans (hb3.mono hb2.out.size))
      clear hb3
      have hp := hP.out.routes
      go_wp2_with fail
      refine hp.mono ?_
      clear hp
      intro e w12 hR
      obtain ⟨hb3, qR3, dR3, rfl, _, hR⟩ := hR.at_
      have hsm := hR.sameE (c := dR3) (d := dR) (hO.out.below hb3) hrl
      replace hO := Lib.hid (hO.out.below hb3)
      replace hP := Lib.hid (hP.out.below hb3)
      replace hb2 := Lib.hid (hb2.out.trans (hb3.mono hb2.out.size))
      clear hb3
      clear hR
      go_wp2_with fail
      refine hsm.mono ?_
      clear hsm
      rintro e w13 ⟨rfl, hb3⟩
      replace hO := Lib.hid (hO.out.below hb3)
      replace hP := Lib.hid (hP.out.below hb3)
      replace hb2 := Lib.hid (hb2.out.trans (hb3.mono hb2.out.size))
      clear hb3
      have hp := hP.out.totalE htot.out
      go_wp2_with fail
      refine hp.mono ?_
      clear hp
      rintro e w14 ⟨rfl, hb3⟩
      replace hO := Lib.hid (hO.out.below hb3)
      replace hP := Lib.hid (hP.out.below hb3)
      replace hb2 := Lib.hid (hb2.out.trans (hb3.mono hb2.out.size))
      clear hb3
      go_wp2_with fail
      go_ret
      exact ⟨rfl, hb2.out⟩
    · have hec' : (ec2 == 0) = false := beq_eq_false_iff_ne.2 hec
      obtain rfl := hnp.out hec
      have hp := hP.out.routes
      go_wp2_with fail
      refine hp.mono ?_
      clear hp
      intro e w12 hR
      obtain ⟨hb3, qR3, dR3, rfl, _, hR⟩ := hR.at_
      have hsm := hR.sameE (c := dR3) (d := dR) (hO.out.below hb3) hrl
      replace hO := Lib.hid (hO.out.below hb3)
      replace hP := Lib.hid (hP.out.below hb3)
      replace hb2 := Lib.hid (hb2.out.trans (hb3.mono hb2.out.size))
      clear hb3
      clear hR
      go_wp2_with fail
      refine hsm.mono ?_
      clear hsm
      rintro e w13 ⟨rfl, hb3⟩
      replace hO := Lib.hid (hO.out.below hb3)
      replace hP := Lib.hid (hP.out.below hb3)
      replace hb2 := Lib.hid (hb2.out.trans (hb3.mono hb2.out.size))
      clear hb3
      go_wp2_with fail
      go_ret
      exact ⟨rfl, hb2.out⟩
end Go.Proofs.YtdmnoogppmckaaaGreat
