/-
  Layer 13: PlanLeast: the walk.
-/
import Derived.Test.YtdmnoogppmckaaaGreatPv
import Derived.Test.YtdmnoogppmckaaaGreatPs
import Derived.Test.YtdmnoogppmckaaaGreatDd
namespace Go.Proofs.YtdmnoogppmckaaaGreat
open Go.RowKit

theorem run_ixVe {ρ : Operand → Value} {o : Oper} {w : World} {x y : Operand} {a : Addr} {n c k : Nat} (ho : o.op = .indexAddr 22 x y) (hx : ρ x = .slice (some a) n c) (hy : ρ y = .int .i64 k) (hk : k < n) : (execOp ρ o).run Tryz.prog w = .ok (.value (.pointer (some (a.add (k * 5))))) w := by
  have h0 : (0 : Int) ≤ (k : Int) := by omega
  have h1 : (k : Int) < (n : Int) := by omega
  have h2 : ((k : Int)).toNat = k := by omega
  unfold execOp
  simp only [ho, hx, hy]
  go_simp
theorem run_callRi {ρ : Operand → Value} {o : Oper} {w : World} {x y z u s r : Operand} {a b c d e f : Value} (ho : o.op = .call { callee := .value (.func 17), args := #[x, y, z, u, s, r], argTypes := #[53, 47, 23, 3, 3, 3] }) (hx : ρ x = a) (hy : ρ y = b) (hz : ρ z = c) (hu : ρ u = d) (hs : ρ s = e) (hr : ρ r = f)
    (hf : ρ (.func 17) = .func (.func 17) #[] #[] := by rfl) : (execOp ρ o).run Tryz.prog w = .ok (.enter 17 #[a, b, c, d, e, f]) w := by
  unfold execOp
  simp only [ho]
  go_simp
theorem prc_fin {fl : List Ve} {rows : List Rou2} {t : List Rq} {req : Int} (h1 : ¬ (req < 0 ∨ (t.length : Int) ≤ req)) (h2 : ¬ 0 ≤ whereP rows req) : prcP fl rows t req = match prcK fl rows t req fl.length with
    | none => (0, 0, 12)
    | some p => ((p.1 : Int), p.2, 0) := by
  unfold prcP
  rw [if_neg h1, if_neg h2]
  cases prcK fl rows t req fl.length <;> rfl
set_option maxHeartbeats 8000000 in
set_option maxRecDepth 100000 in
theorem PlanLeast_walk (p : Option Addr) (c : Nat) (B : List Int) (n wd k f : Int) (pA : Option Addr) (cA : Nat) (acts : List (Int × Int)) (wh : Int) (w : World) (hA : DrA w p B n wd) (hf : 0 ≤ f ∧ f < 256) (hE : Els w pA 2 ((acts.take 30).map acV)) (hbl : acts.length ≤ 9223372036854775807) (hr : AcRg acts) (hwh : 0 ≤ wh ∧ wh < 256) :
    Calls Tryz.prog 4 #[.agg (ptC p c B n wd k f), .slice pA acts.length cA, .int .u8 wh] w fun e w' => e = .returned (.bool true) ∧ Below w.heap.size w w' := by
  have hTl : (ptT B n wd).length ≤ 10 := by
    have : (ptT B n wd).length = ptN n := drT_len _ _ _ _
    have := hA.nb
    unfold ptN at *
    omega
  obtain ⟨C, hC⟩ : ∃ C, ptC p c B n wd k f = C := ⟨_, rfl⟩
  have hc5 : C.size = 5 := by rw [← hC]; rfl
  have hdn := Lib.hid (fun wx (hb : Below w.heap.size w wx) => done_calls p c B n wd k f pA cA acts wx (hA.below hb) hf (hE.below hb) hbl hr)
  rw [hC] at hdn ⊢
  have hl0 := Lib.hid (fun wx (h : Blk wx w.heap.size C 38) => run_load_row (P := Tryz.prog) wx w.heap.size 38 C _ _ h Tryz.underlying38 rfl (by rw [hc5]; kernel_rfl))
  have hB0 := Lib.hid (Blk.new w C 38)
  have hb0 := Lib.hid (new_below w (.cells C 38))
  replace hc5 := Lib.hid hc5
  clear hC hA hE hr
  generalize ptF B n f = F at *
  generalize ptT B n wd = T at *
  go_enter Tryz.func4, Tryz.ntmps4
  go_wp2_with fail
  refine (works13_calls _).mono ?_
  rintro e w1 ⟨rfl, hb1⟩
  have hl1 := Lib.hid (hl0.out w1 (hB0.out.mod ((Mod.refl (fun _ => False) _).after hb1) (fun h => h)))
  replace hb1 := Lib.hid (hb0.out.trans (hb1.mono hb0.out.size))
  clear hl0 hB0 hb0
  go_wp2_with (refine wpList_load_v rfl 38 _ rfl ⟨w.heap.size, 0, none⟩ rfl _ hl1.out ?_)
  refine (hdn.out _ hb1.out).mono ?_
  intro e w2 hD
  have hb2 := Lib.hid (hb1.out.trans (hD.low.mono hb1.out.size))
  obtain ⟨b, gT, gM, N, rows, q, q', d, d', wp, rfl, hN, hP, hFp, hTp, hbp, hq1⟩ := hD
  have hlow : Hid (w.heap.size ≤ gT ∧ w.heap.size ≤ gM) := Lib.hid (by have := hq1.size; have := hb1.out.size; have := hP.gB; omega)
  clear hdn hl1 hb1 hq1
  have hwp := Lib.hid hP.gB
  obtain ⟨M, hM⟩ : ∃ M, T.length = M := ⟨_, rfl⟩
  obtain ⟨n1, hF1⟩ : ∃ n1, F.length = n1 := ⟨_, rfl⟩
  have hFl : 1 ≤ n1 ∧ n1 ≤ 4 := by have := hP.ok.many; omega
  have hrn : rows.length = n1 := by have := hP.ok.len; omega
  have hok := Lib.hid hP.ok
  have hTl' : M ≤ 10 := by omega
  rw [hM, hF1]
  replace hM := Lib.hid hM
  replace hF1 := Lib.hid hF1
  have e1 := Int.emod_nonneg wh (show (12 : Int) ≠ 0 by omega)
  have e2 := Int.emod_lt_of_pos wh (show (0 : Int) < 12 by omega)
  have s2 : IntKind.i64.wrap (wh % 12 - 1) = wh % 12 - 1 := IntWalk.i64_in _ (by omega)
  have hw : wf64 (wh % 12 - 1) := by unfold wf64; omega
  obtain ⟨v, pr, ec, hX⟩ : ∃ v pr ec, prcP F rows T (wh % 12 - 1) = (v, pr, ec) := ⟨_, _, _, rfl⟩
  have hpc := hP.priceE hX hw
  have hF2 := Lib.hid (hFp.below hbp)
  have hT2 := Lib.hid (hTp.below hbp)
  replace hP := Lib.hid hP
  replace hX := Lib.hid hX
  replace hrn := Lib.hid hrn
  clear hFp hTp hbp hTl
  go_wp2_with fail
  refine hpc.mono ?_
  clear hpc
  rintro e w3 ⟨rfl, hb3⟩
  replace hP := Lib.hid (hP.out.below hb3)
  replace hF2 := Lib.hid (hF2.out.below hb3)
  replace hT2 := Lib.hid (hT2.out.below hb3)
  replace hb2 := Lib.hid (hb2.out.trans (hb3.mono hb2.out.size))
  clear hb3
  by_cases hneg : wh % 12 - 1 < 0
  · have h8 : prcP F rows T (wh % 12 - 1) = (0, 0, 8) := by unfold prcP; rw [if_pos (.inl hneg)]
    have hX2 := hX.out
    rw [h8] at hX2
    obtain ⟨rfl, rfl, rfl⟩ : 0 = v ∧ 0 = pr ∧ 8 = ec := by simpa using hX2
    clear hX2 h8
    go_wp2_with fail
    go_ret
    exact ⟨rfl, hb2.out⟩
  by_cases hge : (M : Int) ≤ wh % 12 - 1
  · have h8 : prcP F rows T (wh % 12 - 1) = (0, 0, 8) := by unfold prcP; rw [if_pos (.inr (by rw [hM.out]; exact hge))]
    have hX2 := hX.out
    rw [h8] at hX2
    obtain ⟨rfl, rfl, rfl⟩ : 0 = v ∧ 0 = pr ∧ 8 = ec := by simpa using hX2
    clear hX2 h8
    go_wp2_with fail
    go_ret
    exact ⟨rfl, hb2.out⟩
  have hin : ¬ (wh % 12 - 1 < 0 ∨ (T.length : Int) ≤ wh % 12 - 1) := by rw [hM.out]; omega
  have hrr : Hid (0 ≤ wh % 12 - 1 ∧ wh % 12 - 1 < (T.length : Int)) := Lib.hid (by omega)
  obtain ⟨rq, hrq⟩ : ∃ rq, wh % 12 - 1 = rq := ⟨_, rfl⟩
  have hhas := hP.out.has (wh % 12 - 1) hw
  rw [hrq] at hhas hX hrr hin hneg hge hw ⊢
  replace hrq := Lib.hid hrq
  clear s2 e1 e2
  by_cases hwh2 : 0 ≤ whereP rows rq
  · have h8 : prcP F rows T rq = (0, 0, 13) := by unfold prcP; rw [if_neg hin, if_pos hwh2]
    have hX2 := hX.out
    rw [h8] at hX2
    obtain ⟨rfl, rfl, rfl⟩ : 0 = v ∧ 0 = pr ∧ 13 = ec := by simpa using hX2
    clear hX2 h8
    rw [decide_eq_true hwh2] at hhas
    go_wp2_with fail
    refine hhas.mono ?_
    rintro e w4 ⟨rfl, rfl⟩
    go_wp2_with fail
    go_ret
    exact ⟨rfl, hb2.out⟩
  have hfin := Lib.hid (prc_fin (fl := F) hin hwh2)
  rw [hX.out, hF1.out] at hfin
  rw [decide_eq_false hwh2] at hhas
  have hwl : Hid (whereP rows rq < 0) := Lib.hid (by omega)
  clear hwh2 hin
  go_wp2_with fail
  refine hhas.mono ?_
  clear hhas
  rintro e w4 ⟨rfl, rfl⟩
  have hro := hP.out.routes
  have hR16 := Lib.hid (fun i => hP.out.row i)
  go_wp2_with fail
  refine hro.mono ?_
  clear hro
  intro e w5 hR
  obtain ⟨hb3, qR, dR, rfl, hdR, hR⟩ := hR.at_
  have hF3 := Lib.hid (hF2.out.below hb3)
  have hT3 := Lib.hid (hT2.out.below hb3)
  replace hb2 := Lib.hid (hb2.out.trans (hb3.mono hb2.out.size))
  obtain ⟨qs, hEl, _, hRI⟩ := hR
  replace hEl := Lib.hid hEl
  replace hRI := Lib.hid hRI
  rw [hrn.out]
  clear hb3 hP hF2 hT2 hdR hlow
  go_wp2_with fail
  go_loopw [15, 16, 17] (fun s15 s16 s17 wx => ∃ (i : Nat) (Q : Option (Nat × Int)), i ≤ n1 ∧ s15 = .int .i64 (lsE Q).1 ∧ s16 = .int .i64 (lsE Q).2 ∧ s17 = .int .i64 i ∧ Hid (Q = prcK F rows T rq i) ∧ Mod (fun _ => False) w5 wx) (fun _ _ s17 _ => n1 - (intOf s17).toNat)
  case atStart => exact ⟨0, none, Nat.zero_le _, rfl, rfl, rfl, Lib.hid rfl, Mod.refl _ _⟩
  case round =>
    obtain ⟨i, Q, hi, rfl, rfl, rfl, hQ, hm⟩ := hrel
    by_cases hlt : i < n1
    · have hltI : (i : Int) < (n1 : Int) := by omega
      have hi0 : (0 : Int) ≤ (i : Int) := by omega
      have s1 : IntKind.i64.wrap ((i : Int) + 1) = (i : Int) + 1 := IntWalk.i64_in _ (by omega)
      have hiF : i < F.length := by rw [hF1.out]; exact hlt
      have hiR : i < rows.length := by rw [hrn.out]; exact hlt
      obtain ⟨aV, e⟩ := hF3.out.some_of (k := i) (by simpa using hiF)
      subst e
      obtain ⟨aR, e⟩ := hEl.out.some_of (k := i) (by rw [rsV_size]; exact hiR)
      subst e
      have hlv := Lib.hid (fun wx (h : Mod (fun _ => False) w5 wx) => (show (loadVar 53 (aV.add (i * 5))).run Tryz.prog wx = .ok (.agg (veR (F.getD i ve0)).toArray) wx from by
        have := (els_modP hF3.out h (fun _ _ _ h => h)).load (P := Tryz.prog) (a := aV) rfl (k := i) (by simpa using hiF) (ty := 53) Tryz.underlying53 rfl (by kernel_rfl)
        rw [List.getElem_map] at this
        rw [List.getD_eq_getElem?_getD, List.getElem?_eq_getElem hiF]
        exact this))
      have hce := Lib.hid (fun wx (h : Mod (fun _ => False) w5 wx) => run_cellSt (rs_cell hEl.out h hiR))
      obtain ⟨hEi, hci, _⟩ := hRI.out i hiR
      have hli := hR16.out i
      have hri := Lib.hid (fun wx (h : Mod (fun _ => False) w5 wx) (a b : Nat) => (show Calls Tryz.prog 17 #[.agg (veR (F.getD i ve0)).toArray, .slice (qs.getD i (none, 0)).1 (rows.getD i []).length (qs.getD i (none, 0)).2, .slice q' M d', .int .i64 rq, .int .i64 a, .int .i64 b] wx fun e w' =>
          e = .returned (.tuple #[.int .i64 (riV (F.getD i ve0) (rows.getD i []) T rq a b).1, .int .i64 (riV (F.getD i ve0) (rows.getD i []) T rq a b).2]) ∧ Below wx.heap.size wx w' from by
        have := rise_calls (F.getD i ve0 0) (F.getD i ve0 1) (F.getD i ve0 2) (F.getD i ve0 3) (F.getD i ve0 4) rq a b (qs.getD i (none, 0)).1 q' (qs.getD i (none, 0)).2 d' (rows.getD i []) T wx (els_modP hEi h (fun _ _ _ h => h)) hci.1 (els_modP hT3.out h (fun _ _ _ h => h))
        rw [hM.out] at this
        exact this))
      have hst := Lib.hid (ScanI.start (P0 := prcK F rows T rq i) (i := i) (v := F.getD i ve0) (l := rows.getD i []) (t := T) (req := rq))
      have hfi := Lib.hid (fun b Q (h : ScanI (prcK F rows T rq i) i (F.getD i ve0) (rows.getD i []) T rq ((rows.getD i []).length + 1) b Q) => ScanI.fin hok.out hrr.out hwl.out hiF h)
      have hQ0 := hQ.out
      clear hQ
      subst hQ0
      replace hm := Lib.hid hm
      clear hEi hiF hiR
      generalize prcK F rows T rq i = P0 at *
      generalize F.getD i ve0 = V at *
      generalize rows.getD i [] = l at *
      generalize (qs.getD i (none, 0)).1 = qi at *
      generalize (qs.getD i (none, 0)).2 = di at *
      obtain ⟨ln, hln⟩ : ∃ ln, l.length = ln := ⟨_, rfl⟩
      rw [hln] at hce hri hfi hli
      replace hln := Lib.hid hln
      have hcw := Lib.hid (hce.out _ hm.out)
      go_wp2_with fail
      go_loopw [15, 16, 18] (fun s15 s16 s18 wx => ∃ (a : Nat) (Q : Option (Nat × Int)), a ≤ ln + 1 ∧ s15 = .int .i64 (lsE Q).1 ∧ s16 = .int .i64 (lsE Q).2 ∧ s18 = .int .i64 a ∧ Hid (ScanI P0 i V l T rq a a Q) ∧ Mod (fun _ => False) w5 wx) (fun _ _ s18 _ => ln + 1 - (intOf s18).toNat)
      case atStart => exact ⟨0, P0, Nat.zero_le _, rfl, rfl, rfl, hst, hm.out⟩
      case round =>
        clear hst hm hcw
        obtain ⟨a, Q, ha, rfl, rfl, rfl, hS, hm⟩ := hrel
        have hcw := Lib.hid (hce.out _ hm)
        by_cases hla : a ≤ ln
        · have hlaI : (a : Int) ≤ (ln : Int) := by omega
          have s3 : IntKind.i64.wrap ((a : Int) + 1) = (a : Int) + 1 := IntWalk.i64_in _ (by omega)
          replace hm := Lib.hid hm
          go_wp2_with (refine wpList_load_v rfl 47 _ rfl (aR.add i) rfl _ hcw.out ?_)
          go_loopw [15, 16, 19] (fun s15 s16 s19 wx => ∃ (b : Nat) (Q : Option (Nat × Int)), a ≤ b ∧ b ≤ ln + 1 ∧ s15 = .int .i64 (lsE Q).1 ∧ s16 = .int .i64 (lsE Q).2 ∧ s19 = .int .i64 b ∧ Hid (ScanI P0 i V l T rq a b Q) ∧ Mod (fun _ => False) w5 wx) (fun _ _ s19 _ => ln + 1 - (intOf s19).toNat)
          case atStart => exact ⟨a, Q, Nat.le_refl _, by omega, rfl, rfl, rfl, hS, hm.out⟩
          case round =>
            clear hS hm hcw
            obtain ⟨b, Q, hab, hb, rfl, rfl, rfl, hS, hm⟩ := hrel
            have hcw := Lib.hid (hce.out _ hm)
            by_cases hlb : b ≤ ln
            · have hlbI : (b : Int) ≤ (ln : Int) := by omega
              have s4 : IntKind.i64.wrap ((b : Int) + 1) = (b : Int) + 1 := IntWalk.i64_in _ (by omega)
              have hrw := Lib.hid (fun W (h : Mod (fun _ => False) wr W) => hri.out W (hm.trans h) a b)
              have hlw := Lib.hid (fun W (h : Mod (fun _ => False) wr W) => hlv.out W (hm.trans h))
              have hcw2 := Lib.hid (fun W (h : Mod (fun _ => False) wr W) => hce.out W (hm.trans h))
              have hlb' : b ≤ l.length := by rw [hln.out]; exact hlb
              have hsk := Lib.hid (fun (h : (riV V l T rq a b).2 = 0 → ∃ q, Q = some q ∧ q.2 ≤ (riV V l T rq a b).1) => hS.out.skip h)
              have htk := Lib.hid (fun (h0 : (riV V l T rq a b).2 = 0) (h1 : ∀ q, Q = some q → (riV V l T rq a b).1 < q.2) => hS.out.take hab hlb' h0 h1)
              clear hlb'
              obtain ⟨r, c, hrc⟩ : ∃ r c, riV V l T rq a b = (r, c) := ⟨_, _, rfl⟩
              rw [hrc] at hrw hsk htk
              dsimp only at hrw hsk htk
              replace hrc := Lib.hid hrc
              replace hm := Lib.hid hm
              obtain ⟨Y, hY⟩ : ∃ Y, (veR V).toArray = Y := ⟨_, rfl⟩
              rw [hY] at hrw hlw
              replace hY := Lib.hid hY
              clear hS
              go_upto_region 23 with (refine wpList_load_v rfl 47 _ rfl (aR.add i) rfl _ hcw.out ?_)
              refine wp_region_rove (X := Unit) () (fun x => [(93, .slice (some aV) n1 d), (94, .int .i64 i), (95, .pointer (some (aV.add (i * 5)))), (96, .agg Y), (97, .slice (some aR) n1 dR), (98, .int .i64 i), (99, .pointer (some (aR.add i))), (100, .slice qi ln di), (101, .slice q' M d'), (102, .int .i64 rq), (103, .int .i64 a), (104, .int .i64 b), (105, .tuple #[.int .i64 r, .int .i64 c]), (92, .tuple #[.int .i64 r, .int .i64 c]), (106, .int .i64 r), (107, .int .i64 c), (20, .int .i64 r), (21, .int .i64 c)])
                (fun x d W' => Mod (fun _ => False) wr W') (by kernel_rfl) (by kernel_rfl) (by kernel_rfl) (by kernel_rfl) (fun x => by kernel_rfl)
                (Mod.refl _ _).drew ?_ ?_
              · intro aF hAF
                have E8 : ∀ x, (aF x).eval (.tmp 8) = .slice (some aV) n1 d := by intro x; rw [hAF]; kernel_rfl
                have E17 : ∀ x, (aF x).eval (.tmp 17) = .int .i64 i := by intro x; rw [hAF]; kernel_rfl
                have E14 : ∀ x, (aF x).eval (.tmp 14) = .slice (some aR) n1 dR := by intro x; rw [hAF]; kernel_rfl
                have E9 : ∀ x, (aF x).eval (.tmp 9) = .slice q' M d' := by intro x; rw [hAF]; kernel_rfl
                have E10 : ∀ x, (aF x).eval (.tmp 10) = .int .i64 rq := by intro x; rw [hAF]; kernel_rfl
                have E18 : ∀ x, (aF x).eval (.tmp 18) = .int .i64 a := by intro x; rw [hAF]; kernel_rfl
                have E19 : ∀ x, (aF x).eval (.tmp 19) = .int .i64 b := by intro x; rw [hAF]; kernel_rfl
                have T93 : ∀ x, (aF x).tmps[93]? = some (.slice (some aV) n1 d) := by intro x; rw [hAF]; kernel_rfl
                have E93 : ∀ x, (aF x).eval (.tmp 93) = .slice (some aV) n1 d := by intro x; rw [hAF]; kernel_rfl
                have T94 : ∀ x, (aF x).tmps[94]? = some (.int .i64 i) := by intro x; rw [hAF]; kernel_rfl
                have E94 : ∀ x, (aF x).eval (.tmp 94) = .int .i64 i := by intro x; rw [hAF]; kernel_rfl
                have T95 : ∀ x, (aF x).tmps[95]? = some (.pointer (some (aV.add (i * 5)))) := by intro x; rw [hAF]; kernel_rfl
                have E95 : ∀ x, (aF x).eval (.tmp 95) = .pointer (some (aV.add (i * 5))) := by intro x; rw [hAF]; kernel_rfl
                have T96 : ∀ x, (aF x).tmps[96]? = some (.agg Y) := by intro x; rw [hAF]; kernel_rfl
                have E96 : ∀ x, (aF x).eval (.tmp 96) = .agg Y := by intro x; rw [hAF]; kernel_rfl
                have T97 : ∀ x, (aF x).tmps[97]? = some (.slice (some aR) n1 dR) := by intro x; rw [hAF]; kernel_rfl
                have E97 : ∀ x, (aF x).eval (.tmp 97) = .slice (some aR) n1 dR := by intro x; rw [hAF]; kernel_rfl
                have T98 : ∀ x, (aF x).tmps[98]? = some (.int .i64 i) := by intro x; rw [hAF]; kernel_rfl
                have E98 : ∀ x, (aF x).eval (.tmp 98) = .int .i64 i := by intro x; rw [hAF]; kernel_rfl
                have T99 : ∀ x, (aF x).tmps[99]? = some (.pointer (some (aR.add i))) := by intro x; rw [hAF]; kernel_rfl
                have E99 : ∀ x, (aF x).eval (.tmp 99) = .pointer (some (aR.add i)) := by intro x; rw [hAF]; kernel_rfl
                have T100 : ∀ x, (aF x).tmps[100]? = some (.slice qi ln di) := by intro x; rw [hAF]; kernel_rfl
                have E100 : ∀ x, (aF x).eval (.tmp 100) = .slice qi ln di := by intro x; rw [hAF]; kernel_rfl
                have T101 : ∀ x, (aF x).tmps[101]? = some (.slice q' M d') := by intro x; rw [hAF]; kernel_rfl
                have E101 : ∀ x, (aF x).eval (.tmp 101) = .slice q' M d' := by intro x; rw [hAF]; kernel_rfl
                have T102 : ∀ x, (aF x).tmps[102]? = some (.int .i64 rq) := by intro x; rw [hAF]; kernel_rfl
                have E102 : ∀ x, (aF x).eval (.tmp 102) = .int .i64 rq := by intro x; rw [hAF]; kernel_rfl
                have T103 : ∀ x, (aF x).tmps[103]? = some (.int .i64 a) := by intro x; rw [hAF]; kernel_rfl
                have E103 : ∀ x, (aF x).eval (.tmp 103) = .int .i64 a := by intro x; rw [hAF]; kernel_rfl
                have T104 : ∀ x, (aF x).tmps[104]? = some (.int .i64 b) := by intro x; rw [hAF]; kernel_rfl
                have E104 : ∀ x, (aF x).eval (.tmp 104) = .int .i64 b := by intro x; rw [hAF]; kernel_rfl
                have T105 : ∀ x, (aF x).tmps[105]? = some (.tuple #[.int .i64 r, .int .i64 c]) := by intro x; rw [hAF]; kernel_rfl
                have E105 : ∀ x, (aF x).eval (.tmp 105) = .tuple #[.int .i64 r, .int .i64 c] := by intro x; rw [hAF]; kernel_rfl
                have T92 : ∀ x, (aF x).tmps[92]? = some (.tuple #[.int .i64 r, .int .i64 c]) := by intro x; rw [hAF]; kernel_rfl
                have E92 : ∀ x, (aF x).eval (.tmp 92) = .tuple #[.int .i64 r, .int .i64 c] := by intro x; rw [hAF]; kernel_rfl
                have T106 : ∀ x, (aF x).tmps[106]? = some (.int .i64 r) := by intro x; rw [hAF]; kernel_rfl
                have E106 : ∀ x, (aF x).eval (.tmp 106) = .int .i64 r := by intro x; rw [hAF]; kernel_rfl
                have T107 : ∀ x, (aF x).tmps[107]? = some (.int .i64 c) := by intro x; rw [hAF]; kernel_rfl
                have E107 : ∀ x, (aF x).eval (.tmp 107) = .int .i64 c := by intro x; rw [hAF]; kernel_rfl
                have T20 : ∀ x, (aF x).tmps[20]? = some (.int .i64 r) := by intro x; rw [hAF]; kernel_rfl
                have E20 : ∀ x, (aF x).eval (.tmp 20) = .int .i64 r := by intro x; rw [hAF]; kernel_rfl
                have T21 : ∀ x, (aF x).tmps[21]? = some (.int .i64 c) := by intro x; rw [hAF]; kernel_rfl
                have E21 : ∀ x, (aF x).eval (.tmp 21) = .int .i64 c := by intro x; rw [hAF]; kernel_rfl
                replace hAF := Lib.hid hAF
                refine ⟨?_, ?_, ?_, ?_, ?_, ?_, ?_, ?_, ?_, ?_, ?_, ?_, ?_, ?_, ?_, ?_, ?_, ?_, trivial⟩
                · exact opOk3_quiet _ (by intro x t hd _; cases hd; exact T93 x) (fun _ => rfl) fun x d w' hd hc => sv (run_mov rfl (E8 x)) hc
                · exact opOk3_quiet _ (by intro x t hd _; cases hd; exact T94 x) (fun _ => rfl) fun x d w' hd hc => sv (run_mov rfl (E17 x)) hc
                · exact opOk3_quiet _ (by intro x t hd _; cases hd; exact T95 x) (fun _ => rfl) fun x d w' hd hc => sv (run_ixVe rfl (E93 x) (E94 x) hlt) hc
                · exact opOk3_quiet _ (by intro x t hd _; cases hd; exact T96 x) (fun _ => rfl) fun x d w' hd hc => sv (run_load1 rfl (E95 x) (hlw.out _ hc)) hc
                · exact opOk3_quiet _ (by intro x t hd _; cases hd; exact T97 x) (fun _ => rfl) fun x d w' hd hc => sv (run_mov rfl (E14 x)) hc
                · exact opOk3_quiet _ (by intro x t hd _; cases hd; exact T98 x) (fun _ => rfl) fun x d w' hd hc => sv (run_mov rfl (E17 x)) hc
                · exact opOk3_quiet _ (by intro x t hd _; cases hd; exact T99 x) (fun _ => rfl) fun x d w' hd hc => sv (run_ixRs rfl (E97 x) (E98 x) hlt) hc
                · exact opOk3_quiet _ (by intro x t hd _; cases hd; exact T100 x) (fun _ => rfl) fun x d w' hd hc => sv (run_load1 rfl (E99 x) (hcw2.out _ hc)) hc
                · exact opOk3_quiet _ (by intro x t hd _; cases hd; exact T101 x) (fun _ => rfl) fun x d w' hd hc => sv (run_mov rfl (E9 x)) hc
                · exact opOk3_quiet _ (by intro x t hd _; cases hd; exact T102 x) (fun _ => rfl) fun x d w' hd hc => sv (run_mov rfl (E10 x)) hc
                · exact opOk3_quiet _ (by intro x t hd _; cases hd; exact T103 x) (fun _ => rfl) fun x d w' hd hc => sv (run_mov rfl (E18 x)) hc
                · exact opOk3_quiet _ (by intro x t hd _; cases hd; exact T104 x) (fun _ => rfl) fun x d w' hd hc => sv (run_mov rfl (E19 x)) hc
                · exact opOk3_quiet _ (by intro x t hd _; cases hd; exact T105 x) (fun _ => rfl) fun x d w' hd hc => sc (run_callRi rfl (E96 x) (E100 x) (E101 x) (E102 x) (E103 x) (E104 x)) ((hrw.out w' hc).mono fun e w'' h => ⟨h.1, hc.after h.2⟩)
                · exact opOk3_quiet _ (by intro x t hd _; cases hd; exact T92 x) (fun _ => rfl) fun x d w' hd hc => sv (run_mov rfl (E105 x)) hc
                · exact opOk3_quiet _ (by intro x t hd _; cases hd; exact T106 x) (fun _ => rfl) fun x d w' hd hc => sv (run_ext rfl (E92 x) rfl) hc
                · exact opOk3_quiet _ (by intro x t hd _; cases hd; exact T107 x) (fun _ => rfl) fun x d w' hd hc => sv (run_ext rfl (E92 x) rfl) hc
                · exact opOk3_quiet _ (by intro x t hd _; cases hd; exact T20 x) (fun _ => rfl) fun x d w' hd hc => sv (run_asg rfl (E106 x)) hc
                · exact opOk3_quiet _ (by intro x t hd _; cases hd; exact T21 x) (fun _ => rfl) fun x d w' hd hc => sv (run_asg rfl (E107 x)) hc
              · intro x d w' hd hc
                simp only [putAll, List.foldl_cons, List.foldl_nil, Act.put, List.setIfInBounds_toArray, List.set_cons_succ, List.set_cons_zero]
                have hm2 := Lib.hid (hm.out.trans hc)
                clear hc hd hrw hlw hcw2 hm hcw
                by_cases h0 : c = 0
                · subst h0
                  cases Q with
                  | none =>
                    have hS2 := Lib.hid (htk.out rfl (fun q hq => by cases hq))
                    clear hsk htk
                    dsimp only [lsE]
                    go_wp2_with fail
                    go_roundw
                    case rel => exact ⟨b + 1, some (i, r), by omega, by omega, rfl, rfl, by simp, hS2, hm2.out⟩
                    case measure => simp [intOf]; omega
                  | some p0 =>
                    obtain ⟨pi, p2⟩ := p0
                    dsimp only [lsE]
                    have hpi : ¬ (pi : Int) < 0 := by omega
                    by_cases hlr : r < p2
                    · have hS2 := Lib.hid (htk.out rfl (fun q hq => by cases hq; exact hlr))
                      clear hsk htk
                      go_wp2_with fail
                      go_roundw
                      case rel => exact ⟨b + 1, some (i, r), by omega, by omega, rfl, rfl, by simp, hS2, hm2.out⟩
                      case measure => simp [intOf]; omega
                    · have hS2 := Lib.hid (hsk.out (fun _ => ⟨_, rfl, by dsimp only; omega⟩))
                      clear hsk htk
                      go_wp2_with fail
                      go_roundw
                      case rel => exact ⟨b + 1, some (pi, p2), by omega, by omega, rfl, rfl, by simp, hS2, hm2.out⟩
                      case measure => simp [intOf]; omega
                · have h0' : (c == 0) = false := beq_eq_false_iff_ne.2 h0
                  have hS2 := Lib.hid (hsk.out (fun h => absurd h h0))
                  clear hsk htk
                  go_wp2_with fail
                  go_roundw
                  case rel => exact ⟨b + 1, Q, by omega, by omega, rfl, rfl, by simp, hS2, hm2.out⟩
                  case measure => simp [intOf]; omega
            · obtain rfl : b = ln + 1 := by omega
              have hlbI : ¬ ((ln + 1 : Nat) : Int) ≤ (ln : Int) := by omega
              have hS2 := Lib.hid (show ScanI P0 i V l T rq (a + 1) (a + 1) Q from ScanI.row (by rw [hln.out]; exact hS.out))
              clear hS
              go_wp2_with (refine wpList_load_v rfl 47 _ rfl (aR.add i) rfl _ hcw.out ?_)
              go_roundw
              case rel => exact ⟨a + 1, Q, by omega, rfl, rfl, by simp, hS2, hm⟩
              case measure => simp [intOf]; omega
        · obtain rfl : a = ln + 1 := by omega
          have hlaI : ¬ ((ln + 1 : Nat) : Int) ≤ (ln : Int) := by omega
          have hQ2 := Lib.hid (hfi.out _ Q hS.out)
          clear hS
          go_wp2_with (refine wpList_load_v rfl 47 _ rfl (aR.add i) rfl _ hcw.out ?_)
          go_roundw
          case rel => exact ⟨i + 1, Q, by omega, rfl, rfl, by simp, hQ2, hm⟩
          case measure => simp [intOf]; omega
    · obtain rfl : i = n1 := by omega
      have hf2 := hfin.out
      rw [← hQ.out] at hf2
      have hb9 := Lib.hid (hb2.out.trans (hm.below hb2.out.size (fun _ h => h.elim)))
      clear hQ hm hfin
      cases Q with
      | none =>
        obtain ⟨rfl, rfl, rfl⟩ : v = 0 ∧ pr = 0 ∧ ec = 12 := by simpa using hf2
        dsimp only [lsE]
        clear hf2
        go_wp2_with fail
        go_ret
        exact ⟨rfl, hb9.out⟩
      | some p0 =>
        obtain ⟨pi, p2⟩ := p0
        obtain ⟨rfl, rfl, rfl⟩ : v = (pi : Int) ∧ pr = p2 ∧ ec = 0 := by simpa using hf2
        have hpi : ¬ (pi : Int) < 0 := by omega
        dsimp only [lsE]
        clear hf2
        go_wp2_with fail
        go_ret
        exact ⟨rfl, hb9.out⟩
end Go.Proofs.YtdmnoogppmckaaaGreat
