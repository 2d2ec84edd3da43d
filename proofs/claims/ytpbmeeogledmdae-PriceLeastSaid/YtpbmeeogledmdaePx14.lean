/-
  Layer 14: PriceLeast: the walk.
-/
import Derived.Test.YtpbmeeogledmdaeWk14
import Derived.Test.YtpbmeeogledmdaeMk14
namespace Go.Proofs.Ytpbmeeogledmdae
open Go.RowKit

/-- what a contract of two ways says where the way is known -/
theorem FsPost.ok {w w' : World} {e : Ending} {B : Bool} (h : FsPost w B e w') (hB : B = true) : e = .returned .nilIface ∧ Below w.heap.size w w' := ⟨h.1 hB, h.2.2⟩
theorem FsPost.bad {w w' : World} {e : Ending} {B : Bool} (h : FsPost w B e w') (hB : B = false) : ∃ b, e = .returned (.iface 136 (.pointer (some ⟨b, 0, none⟩))) ∧ Below w.heap.size w w' := by
  obtain ⟨b, hb⟩ := h.2.1 hB
  exact ⟨b, hb, h.2.2⟩
theorem with_some {l : List (Int × Int)} {req : Int} {a b : Nat} (hr : 0 ≤ req) (hn : ∀ s ∈ l, s.1 ≠ req) (hab : a ≤ b) (hb : b ≤ l.length) (hl : l.length ≤ 14) : withP l req a b = some (withL l req a b) := by
  unfold withP
  rw [if_neg]
  · rfl
  · simp only [List.any_eq_true, beq_iff_eq, not_or, not_exists, not_and]
    exact ⟨by omega, by omega, by omega, by omega, hn, by omega⟩
theorem with_none {l : List (Int × Int)} {req : Int} {a b : Int} (hl : ¬ l.length ≤ 14) : withP l req a b = none := by
  unfold withP
  rw [if_pos (by omega)]
set_option maxHeartbeats 8000000 in
set_option maxRecDepth 100000 in
theorem PriceLeast_walk (p : Option Addr) (c : Nat) (B : List Int) (n wd k m : Int) (pA : Option Addr) (cA : Nat) (acts : List Int) (wh : Int) (w : World) (hA : DrA w p B n wd) (hm : 0 ≤ m ∧ m < 256) (hE : Els w pA 1 ((acts.take 8).map u8V)) (hbl : acts.length ≤ 9223372036854775807) (hr : ∀ a ∈ acts, 0 ≤ a ∧ a < 256) (hwh : 0 ≤ wh ∧ wh < 256) :
    Calls Try.prog 3 #[.agg (ppC p c B n wd k m), .slice pA acts.length cA, .int .u8 wh] w fun e w' => e = .returned (.bool true) ∧ Below w.heap.size w w' := by
  have hnc := Lib.hid (pp_newC B wd)
  have hT8 : (ppT B wd).length = 8 := drT_len _ _ _ _
  have hF2 : (ppF B).length = 2 := rfl
  have hok0 := Lib.hid (ok0 (pp_newC B wd))
  obtain ⟨C, hC⟩ : ∃ C, ppC p c B n wd k m = C := ⟨_, rfl⟩
  have hc5 : C.size = 5 := by rw [← hC]; rfl
  have hpt := Lib.hid (fun wx (hb : Below w.heap.size w wx) => ppparts_calls p c B n wd k m wx (hA.below hb) hm)
  rw [hC] at hpt ⊢
  have hl0 := Lib.hid (fun wx (h : Blk wx w.heap.size C 26) => run_load_row (P := Try.prog) wx w.heap.size 26 C _ _ h Try.underlying26 rfl (by rw [hc5]; kernel_rfl))
  have hB0 := Lib.hid (Blk.new w C 26)
  have hb0 := Lib.hid (new_below w (.cells C 26))
  replace hc5 := Lib.hid hc5
  clear hC hA
  generalize ppF B = F at *
  generalize ppT B wd = T at *
  have hmd := Lib.hid (fun q q' d d' wx (h : Els wx q 5 (F.map veR)) (h' : Els wx q' 10 (T.map rqV)) (hb : Below w.heap.size w wx) => made14_calls q q' d d' F T pA cA acts wx h (by omega) h' (by omega) hnc.out (hE.below hb) hbl hr)
  unfold PpPost at hpt
  rw [hF2, hT8] at hpt hmd
  replace hF2 := Lib.hid hF2
  replace hT8 := Lib.hid hT8
  clear hE hr
  go_enter Try.func3, Try.ntmps3
  go_wp2_with fail
  refine (works14_calls _).mono ?_
  rintro e w1 ⟨rfl, hb1⟩
  have hl1 := Lib.hid (hl0.out w1 (hB0.out.mod ((Mod.refl (fun _ => False) _).after hb1) (fun h => h)))
  replace hb1 := Lib.hid (hb0.out.trans (hb1.mono hb0.out.size))
  clear hl0 hB0 hb0
  go_wp2_with (refine wpList_load_v rfl 26 _ rfl ⟨w.heap.size, 0, none⟩ rfl _ hl1.out ?_)
  refine (hpt.out _ hb1.out).mono ?_
  rintro e w2 ⟨⟨q, q', r0, d, d', m0, dr0, rfl, hFe, hTe⟩, hb2⟩
  have hb2' := Lib.hid (hb1.out.trans (hb2.mono hb1.out.size))
  have hmk := Lib.hid (hmd.out q q' d d' w2 hFe hTe hb2'.out)
  unfold MdPost14 at hmk
  replace hFe := Lib.hid hFe
  replace hTe := Lib.hid hTe
  clear hpt hmd hl1 hb2 hb1
  go_wp2_with fail
  refine hmk.out.mono ?_
  rintro e w3 ⟨b, gT, gM, N, rows, rfl, hN, hP, hb3⟩
  have hok := Lib.hid hP.ok
  have hF3 := Lib.hid (hFe.out.below hb3)
  have hT3 := Lib.hid (hTe.out.below hb3)
  have hb3' := Lib.hid (hb2'.out.trans (hb3.mono hb2'.out.size))
  have hw2 := Lib.hid hb2'.out.size
  clear hmk hb3 hFe hTe hb2' hok0
  have e1 := Int.emod_nonneg wh (show (8 : Int) ≠ 0 by omega)
  have e2 := Int.emod_lt_of_pos wh (show (0 : Int) < 8 by omega)
  have hwh0 := hwh.1
  obtain ⟨rq, hrq⟩ : ∃ rq, wh % 8 = rq := ⟨_, rfl⟩
  have hw : wf64 rq := by unfold wf64; omega
  have hbid := Lib.hid (pbid_calls hP rq hw)
  have hhas := hP.has rq hw
  replace hP := Lib.hid hP
  go_upto_region 8 with fail
  have hrr : Hid (0 ≤ rq ∧ rq < (T.length : Int)) := Lib.hid (by rw [hT8.out]; omega)
  replace hrq := Lib.hid hrq
  clear e1 e2 hwh hwh0
  obtain ⟨bd, hbd⟩ : ∃ bd, bidP F rows T rq = bd := ⟨_, rfl⟩
  rw [hbd] at hbid
  by_cases hwh2 : 0 ≤ whereP rows rq
  · obtain rfl : 4294967296 = bd := by rw [← hbd, bid_where hwh2]
    rw [decide_eq_true hwh2] at hhas
    have hha := Lib.hid (fun wx (h : Below w3.heap.size w3 wx) => (hP.out.below h).has rq hw)
    rw [decide_eq_true hwh2] at hha
    clear hhas
    go_wp2_with fail
    refine hbid.out.mono ?_
    rintro e w4 ⟨rfl, hb4⟩
    have hh4 := Lib.hid (hha.out w4 hb4)
    have hb4' := Lib.hid (hb3'.out.trans (hb4.mono hb3'.out.size))
    clear hb4 hha hbid hP
    go_wp2_with fail
    refine hh4.out.mono ?_
    rintro e w5 ⟨rfl, rfl⟩
    go_wp2_with fail
    go_ret
    exact ⟨rfl, hb4'.out⟩
  have hwl : whereP rows rq < 0 := by omega
  have hha := Lib.hid (fun wx (h : Below w3.heap.size w3 wx) => (hP.out.below h).has rq hw)
  rw [decide_eq_false hwh2] at hha
  -- the plain facts
  have hrn : rows.length = 2 := by rw [hok.out.len, hF2.out]
  obtain ⟨ec, hec⟩ : ∃ ec, (prcP F rows T rq).2.2 = ec := ⟨_, rfl⟩
  obtain ⟨pr, hpr⟩ : ∃ pr, (prcP F rows T rq).2.1 = pr := ⟨_, rfl⟩
  have hbd0 : Hid (ec = 0 → bd = pr ∧ 0 ≤ pr ∧ pr ≤ 4194304) := Lib.hid (fun h => by
    have h0 : (prcP F rows T rq).2.2 = 0 := hec.trans h
    have := rise_bd hok.out h0
    rw [hpr] at this
    exact ⟨by rw [← hbd, bid_ok h0, hpr], this.1, this.2.1⟩)
  have hbd1 : Hid (ec ≠ 0 → bd = 4294967296) := Lib.hid (fun h => by rw [← hbd, bid_none (by rw [hec]; exact h)])
  obtain ⟨Mt, hMt⟩ : ∃ Mt, MetP F rows T rq = Mt := ⟨_, rfl⟩
  have hM0 : Hid (¬ Mt 0 0 0) := Lib.hid (by rw [← hMt]; exact met_start)
  have hMr : Hid (∀ i a, Mt i a ((rows.getD i []).length + 1) ↔ Mt i (a + 1) (a + 1)) := Lib.hid (fun i a => by rw [← hMt]; exact met_row)
  have hMv : Hid (∀ i x, Mt i ((rows.getD i []).length + 1) x ↔ Mt (i + 1) 0 0) := Lib.hid (fun i x => by rw [← hMt]; exact met_veh)
  have hMs : Hid (∀ i a x, i < 2 → a ≤ x → x ≤ (rows.getD i []).length → (Mt i a (x + 1) ↔ Mt i a x ∨ RightV (F.getD i ve0) (withL (rows.getD i []) rq a x) T ∧ riseV (F.getD i ve0) (rows.getD i []) T rq a x = bd)) := Lib.hid (fun i a x hi hax hx => by
    rw [← hMt, ← hbd]
    exact met_step (by rw [hF2.out]; exact hi) hax hx)
  have hMa : Hid (Mt 2 0 0 ↔ ec = 0) := Lib.hid (by
    rw [← hMt, ← hec]
    have := met_all hok.out hrr.out hwl
    rwa [hF2.out] at this)
  have hLe : Hid (∀ i a x, i < 2 → a ≤ x → x ≤ (rows.getD i []).length → RightV (F.getD i ve0) (withL (rows.getD i []) rq a x) T → bd ≤ riseV (F.getD i ve0) (rows.getD i []) T rq a x ∧ 0 ≤ riseV (F.getD i ve0) (rows.getD i []) T rq a x) := Lib.hid (fun i a x hi hax hx hR => by
    have h := bid_le hok.out hrr.out hwl (by rw [hF2.out]; exact hi) hax hx hR
    exact ⟨by rw [← hbd, bid_ok h.1]; exact h.2.1, h.2.2⟩)
  have hRi : Hid (∀ i, i < 2 → RightV (F.getD i ve0) (rows.getD i []) T) := Lib.hid (fun i hi => hok.out.right i (by rw [hF2.out]; exact hi))
  have hni : Hid (∀ i s, s ∈ rows.getD i [] → s.1 ≠ rq) := Lib.hid (fun i s hs => where_getD hwl hs)
  replace hrn := Lib.hid hrn
  replace hec := Lib.hid hec
  replace hpr := Lib.hid hpr
  replace hbd := Lib.hid hbd
  replace hwl := Lib.hid hwl
  clear hhas hwh2 hMt
  have hbdr : Hid (0 ≤ bd ∧ bd ≤ 4294967296) := Lib.hid (by
    by_cases h : ec = 0
    · have := hbd0.out h; omega
    · have := hbd1.out h; omega)
  go_wp2_with fail
  refine hbid.out.mono ?_
  rintro e w4 ⟨rfl, hb4⟩
  have hh4 := Lib.hid (hha.out w4 hb4)
  have hP4 := Lib.hid (hP.out.below hb4)
  have hF4 := Lib.hid (hF3.out.below hb4)
  have hT4 := Lib.hid (hT3.out.below hb4)
  have hb4' := Lib.hid (hb3'.out.trans (hb4.mono hb3'.out.size))
  have hw4 := Lib.hid (Nat.le_trans hw2.out (Nat.le_refl _))
  clear hb4 hha hbid hP hF3 hT3 hb3'
  go_wp2_with fail
  refine hh4.out.mono ?_
  rintro e w5 ⟨rfl, rfl⟩
  have hro := hP4.out.routes
  have hR16 := Lib.hid (fun i => hP4.out.row i)
  clear hh4
  go_wp2_with fail
  refine hro.mono ?_
  clear hro
  intro e w5 hR
  obtain ⟨hb5, qR, dR, rfl, hdR, hR⟩ := hR.at_
  have hF5 := Lib.hid (hF4.out.below hb5)
  have hT5 := Lib.hid (hT4.out.below hb5)
  have hP5 := Lib.hid (hP4.out.below hb5)
  have hb5' := Lib.hid (hb4'.out.trans (hb5.mono hb4'.out.size))
  obtain ⟨qs, hEl, _, hRI⟩ := hR
  replace hEl := Lib.hid hEl
  replace hRI := Lib.hid hRI
  rw [hrn.out]
  clear hb5 hP4 hF4 hT4 hb4' hdR
  go_wp2_with fail
  go_loopw [15, 16] (fun s15 s16 wx => ∃ (i : Nat) (g : Bool), i ≤ 2 ∧ s15 = .bool g ∧ s16 = .int .i64 i ∧ Hid (g = true ↔ Mt i 0 0) ∧ Mod (fun _ => False) w5 wx) (fun _ s16 _ => 2 - (intOf s16).toNat)
  case atStart => exact ⟨0, false, Nat.zero_le _, rfl, rfl, Lib.hid ⟨fun h => (by cases h), fun h => absurd h hM0.out⟩, Mod.refl _ _⟩
  case round =>
    clear hM0
    obtain ⟨i, g, hi, rfl, rfl, hg, hm⟩ := hrel
    by_cases hlt : i < 2
    · have hltI : (i : Int) < 2 := by omega
      have hi0 : (0 : Int) ≤ (i : Int) := by omega
      have s1 : IntKind.i64.wrap ((i : Int) + 1) = (i : Int) + 1 := IntWalk.i64_in _ (by omega)
      have hiF : i < F.length := by rw [hF2.out]; exact hlt
      have hiR : i < rows.length := by rw [hrn.out]; exact hlt
      obtain ⟨aV, e⟩ := hF5.out.some_of (k := i) (by simpa using hiF)
      subst e
      obtain ⟨aR, e⟩ := hEl.out.some_of (k := i) (by rw [rsV_size]; exact hiR)
      subst e
      have hlv := Lib.hid (fun wx (h : Mod (fun _ => False) w5 wx) => (show (loadVar 47 (aV.add (i * 5))).run Try.prog wx = .ok (.agg (veR (F.getD i ve0)).toArray) wx from by
        have := (els_modP hF5.out h (fun _ _ _ h => h)).load (P := Try.prog) (a := aV) rfl (k := i) (by simpa using hiF) (ty := 47) Try.underlying47 rfl (by kernel_rfl)
        rw [List.getElem_map] at this
        rw [List.getD_eq_getElem?_getD, List.getElem?_eq_getElem hiF]
        exact this))
      have hce := Lib.hid (fun wx (h : Mod (fun _ => False) w5 wx) => run_cellSt (rs_cell hEl.out h hiR))
      obtain ⟨hEi, hci, _⟩ := hRI.out i hiR
      have hli := hR16.out i
      have hRv := hRi.out i hlt
      have hnv := Lib.hid (hni.out i)
      have hMri := Lib.hid (hMr.out i)
      have hMvi := Lib.hid (hMv.out i)
      have hMsi := Lib.hid (fun a x => hMs.out i a x hlt)
      have hLei := Lib.hid (fun a x => hLe.out i a x hlt)
      clear hiF hiR
      generalize F.getD i ve0 = V at *
      generalize rows.getD i [] = l at *
      generalize (qs.getD i (none, 0)).1 = qi at *
      generalize (qs.getD i (none, 0)).2 = di at *
      have htv := tm_right hRv
      obtain ⟨en, hen⟩ : ∃ en, (timV V l T).2.1 = en := ⟨_, rfl⟩
      have hen2 : 0 ≤ en ∧ en ≤ 1048576 := by
        obtain ⟨_, h1, h2, h3, h4, _⟩ := htv
        have h5 : (tmP (V 0) (V 1) (V 2) (V 3) (V 4) l T).2.1 = en := hen
        omega
      have htm := Lib.hid (fun wx (h : Mod (fun _ => False) w5 wx) => (show Calls Try.prog 10 #[.agg (veR V).toArray, .slice qi l.length di, .slice q' 8 d'] wx fun e w' => ∃ p n c, e = .returned (.tuple #[.slice p n c, .int .i64 en, .int .i64 0]) ∧ Below wx.heap.size wx w' from by
        have := times_calls (V 0) (V 1) (V 2) (V 3) (V 4) qi q' di d' l T wx (els_modP hEi h (fun _ _ _ h => h)) (els_modP hT5.out h (fun _ _ _ h => h))
        rw [hT8.out] at this
        exact this.mono fun _ _ hp => tm_known hp htv.1 hen))
      have hwi := Lib.hid (fun wx (h : Mod (fun _ => False) w5 wx) (a x : Nat) => (show Calls Try.prog 11 #[.slice qi l.length di, .int .i64 rq, .int .i64 a, .int .i64 x] wx (WiPost wx (withP l rq a x)) from
        with_calls qi di l rq a x wx (els_modP hEi h (fun _ _ _ h => h)) hci.1))
      have hck := Lib.hid (fun wx (h : Mod (fun _ => False) w5 wx) (qn : Option Addr) (dn : Nat) (l' : Rou2) (hE' : Els wx qn 2 (l'.map stV)) => (show Calls Try.prog 12 #[.agg (veR V).toArray, .slice qn l'.length dn, .slice q' 8 d'] wx (FsPost wx (fsB (V 0) (V 1) (V 2) (V 3) (V 4) l' T)) from by
        have := fcheck_calls (V 0) (V 1) (V 2) (V 3) (V 4) qn q' dn d' l' T wx hE' (els_modP hT5.out h (fun _ _ _ h => h))
        rw [hT8.out] at this
        exact this))
      have htn := Lib.hid (fun wx (h : Mod (fun _ => False) w5 wx) (qn : Option Addr) (dn : Nat) (l' : Rou2) (hE' : Els wx qn 2 (l'.map stV)) (hR' : RightV V l' T) => (show Calls Try.prog 10 #[.agg (veR V).toArray, .slice qn l'.length dn, .slice q' 8 d'] wx fun e w' => ∃ p n c, e = .returned (.tuple #[.slice p n c, .int .i64 (timV V l' T).2.1, .int .i64 0]) ∧ Below wx.heap.size wx w' from by
        have := times_calls (V 0) (V 1) (V 2) (V 3) (V 4) qn q' dn d' l' T wx hE' (els_modP hT5.out h (fun _ _ _ h => h))
        rw [hT8.out] at this
        exact this.mono fun _ _ hp => tm_known hp (tm_right hR').1 rfl))
      obtain ⟨ln, hln⟩ : ∃ ln, l.length = ln := ⟨_, rfl⟩
      rw [hln] at hce htm hwi hli hMri hMvi hMsi hLei
      replace hln := Lib.hid hln
      replace hen := Lib.hid hen
      obtain ⟨Y, hY⟩ : ∃ Y, (veR V).toArray = Y := ⟨_, rfl⟩
      rw [hY] at hlv htm hck htn
      replace hY := Lib.hid hY
      replace hm := Lib.hid hm
      have hlw := Lib.hid (fun W (h : Mod (fun _ => False) wr W) => hlv.out W (hm.out.trans h))
      have hcw := Lib.hid (fun W (h : Mod (fun _ => False) wr W) => hce.out W (hm.out.trans h))
      have htw := Lib.hid (fun W (h : Mod (fun _ => False) wr W) => htm.out W (hm.out.trans h))
      clear hRv htv hci hEi htm
      go_upto_region 18 with fail
      refine wp_region_rove (X := Option Addr × Nat × Nat) (none, 0, 0) (fun x => [(72, .slice (some aV) 2 d), (73, .int .i64 i), (74, .pointer (some (aV.add (i * 5)))), (75, .agg Y), (76, .slice (some aR) 2 dR), (77, .int .i64 i), (78, .pointer (some (aR.add i))), (79, .slice qi ln di), (80, .slice q' 8 d'), (83, .int .i64 en), (84, .int .i64 0), (18, .int .i64 en), (19, .int .i64 0)] ++ [(81, .tuple #[.slice x.1 x.2.1 x.2.2, .int .i64 en, .int .i64 0]), (71, .tuple #[.slice x.1 x.2.1 x.2.2, .int .i64 en, .int .i64 0]), (82, .slice x.1 x.2.1 x.2.2), (17, .slice x.1 x.2.1 x.2.2)])
        (fun x d W' => Mod (fun _ => False) wr W') (by kernel_rfl) (by kernel_rfl) (by kernel_rfl) (by kernel_rfl) (fun x => by kernel_rfl)
        (Mod.refl _ _).drew ?_ ?_
      · intro aF hAF
        have E7 : ∀ x, (aF x).eval (.tmp 7) = .slice (some aV) 2 d := by intro x; rw [hAF]; kernel_rfl
        have E16 : ∀ x, (aF x).eval (.tmp 16) = .int .i64 i := by intro x; rw [hAF]; kernel_rfl
        have E14 : ∀ x, (aF x).eval (.tmp 14) = .slice (some aR) 2 dR := by intro x; rw [hAF]; kernel_rfl
        have E9 : ∀ x, (aF x).eval (.tmp 9) = .slice q' 8 d' := by intro x; rw [hAF]; kernel_rfl
        have T72 : ∀ x, (aF x).tmps[72]? = some (.slice (some aV) 2 d) := by intro x; rw [hAF]; kernel_rfl
        have E72 : ∀ x, (aF x).eval (.tmp 72) = .slice (some aV) 2 d := by intro x; rw [hAF]; kernel_rfl
        have T73 : ∀ x, (aF x).tmps[73]? = some (.int .i64 i) := by intro x; rw [hAF]; kernel_rfl
        have E73 : ∀ x, (aF x).eval (.tmp 73) = .int .i64 i := by intro x; rw [hAF]; kernel_rfl
        have T74 : ∀ x, (aF x).tmps[74]? = some (.pointer (some (aV.add (i * 5)))) := by intro x; rw [hAF]; kernel_rfl
        have E74 : ∀ x, (aF x).eval (.tmp 74) = .pointer (some (aV.add (i * 5))) := by intro x; rw [hAF]; kernel_rfl
        have T75 : ∀ x, (aF x).tmps[75]? = some (.agg Y) := by intro x; rw [hAF]; kernel_rfl
        have E75 : ∀ x, (aF x).eval (.tmp 75) = .agg Y := by intro x; rw [hAF]; kernel_rfl
        have T76 : ∀ x, (aF x).tmps[76]? = some (.slice (some aR) 2 dR) := by intro x; rw [hAF]; kernel_rfl
        have E76 : ∀ x, (aF x).eval (.tmp 76) = .slice (some aR) 2 dR := by intro x; rw [hAF]; kernel_rfl
        have T77 : ∀ x, (aF x).tmps[77]? = some (.int .i64 i) := by intro x; rw [hAF]; kernel_rfl
        have E77 : ∀ x, (aF x).eval (.tmp 77) = .int .i64 i := by intro x; rw [hAF]; kernel_rfl
        have T78 : ∀ x, (aF x).tmps[78]? = some (.pointer (some (aR.add i))) := by intro x; rw [hAF]; kernel_rfl
        have E78 : ∀ x, (aF x).eval (.tmp 78) = .pointer (some (aR.add i)) := by intro x; rw [hAF]; kernel_rfl
        have T79 : ∀ x, (aF x).tmps[79]? = some (.slice qi ln di) := by intro x; rw [hAF]; kernel_rfl
        have E79 : ∀ x, (aF x).eval (.tmp 79) = .slice qi ln di := by intro x; rw [hAF]; kernel_rfl
        have T80 : ∀ x, (aF x).tmps[80]? = some (.slice q' 8 d') := by intro x; rw [hAF]; kernel_rfl
        have E80 : ∀ x, (aF x).eval (.tmp 80) = .slice q' 8 d' := by intro x; rw [hAF]; kernel_rfl
        have T83 : ∀ x, (aF x).tmps[83]? = some (.int .i64 en) := by intro x; rw [hAF]; kernel_rfl
        have E83 : ∀ x, (aF x).eval (.tmp 83) = .int .i64 en := by intro x; rw [hAF]; kernel_rfl
        have T84 : ∀ x, (aF x).tmps[84]? = some (.int .i64 0) := by intro x; rw [hAF]; kernel_rfl
        have E84 : ∀ x, (aF x).eval (.tmp 84) = .int .i64 0 := by intro x; rw [hAF]; kernel_rfl
        have T18 : ∀ x, (aF x).tmps[18]? = some (.int .i64 en) := by intro x; rw [hAF]; kernel_rfl
        have E18 : ∀ x, (aF x).eval (.tmp 18) = .int .i64 en := by intro x; rw [hAF]; kernel_rfl
        have T19 : ∀ x, (aF x).tmps[19]? = some (.int .i64 0) := by intro x; rw [hAF]; kernel_rfl
        have E19 : ∀ x, (aF x).eval (.tmp 19) = .int .i64 0 := by intro x; rw [hAF]; kernel_rfl
        have T81 : ∀ x, (aF x).tmps[81]? = some (.tuple #[.slice x.1 x.2.1 x.2.2, .int .i64 en, .int .i64 0]) := by intro x; rw [hAF]; kernel_rfl
        have E81 : ∀ x, (aF x).eval (.tmp 81) = .tuple #[.slice x.1 x.2.1 x.2.2, .int .i64 en, .int .i64 0] := by intro x; rw [hAF]; kernel_rfl
        have T71 : ∀ x, (aF x).tmps[71]? = some (.tuple #[.slice x.1 x.2.1 x.2.2, .int .i64 en, .int .i64 0]) := by intro x; rw [hAF]; kernel_rfl
        have E71 : ∀ x, (aF x).eval (.tmp 71) = .tuple #[.slice x.1 x.2.1 x.2.2, .int .i64 en, .int .i64 0] := by intro x; rw [hAF]; kernel_rfl
        have T82 : ∀ x, (aF x).tmps[82]? = some (.slice x.1 x.2.1 x.2.2) := by intro x; rw [hAF]; kernel_rfl
        have E82 : ∀ x, (aF x).eval (.tmp 82) = .slice x.1 x.2.1 x.2.2 := by intro x; rw [hAF]; kernel_rfl
        have T17 : ∀ x, (aF x).tmps[17]? = some (.slice x.1 x.2.1 x.2.2) := by intro x; rw [hAF]; kernel_rfl
        have E17 : ∀ x, (aF x).eval (.tmp 17) = .slice x.1 x.2.1 x.2.2 := by intro x; rw [hAF]; kernel_rfl
        replace hAF := Lib.hid hAF
        refine ⟨?_, ?_, ?_, ?_, ?_, ?_, ?_, ?_, ?_, ?_, ?_, ?_, ?_, ?_, ?_, ?_, ?_, trivial⟩
        · exact opOk3_quiet _ (by intro x t hd _; cases hd; exact T72 x) (fun _ => rfl) fun x d w' hd hc => sv (run_mov rfl (E7 x)) hc
        · exact opOk3_quiet _ (by intro x t hd _; cases hd; exact T73 x) (fun _ => rfl) fun x d w' hd hc => sv (run_mov rfl (E16 x)) hc
        · exact opOk3_quiet _ (by intro x t hd _; cases hd; exact T74 x) (fun _ => rfl) fun x d w' hd hc => sv (run_ixVeY rfl (E72 x) (E73 x) hlt) hc
        · exact opOk3_quiet _ (by intro x t hd _; cases hd; exact T75 x) (fun _ => rfl) fun x d w' hd hc => sv (run_load1 rfl (E74 x) (hlw.out _ hc)) hc
        · exact opOk3_quiet _ (by intro x t hd _; cases hd; exact T76 x) (fun _ => rfl) fun x d w' hd hc => sv (run_mov rfl (E14 x)) hc
        · exact opOk3_quiet _ (by intro x t hd _; cases hd; exact T77 x) (fun _ => rfl) fun x d w' hd hc => sv (run_mov rfl (E16 x)) hc
        · exact opOk3_quiet _ (by intro x t hd _; cases hd; exact T78 x) (fun _ => rfl) fun x d w' hd hc => sv (run_ixRs rfl (E76 x) (E77 x) hlt) hc
        · exact opOk3_quiet _ (by intro x t hd _; cases hd; exact T79 x) (fun _ => rfl) fun x d w' hd hc => sv (run_load1 rfl (E78 x) (hcw.out _ hc)) hc
        · exact opOk3_quiet _ (by intro x t hd _; cases hd; exact T80 x) (fun _ => rfl) fun x d w' hd hc => sv (run_mov rfl (E9 x)) hc
        · exact opOk3_loud rfl fun x d w' hd hn hc => by
              refine sk (run_callTimes rfl (E75 x) (E79 x) (E80 x)) ((htw.out w' hc).mono ?_)
              rintro e w'' ⟨q, nn, dd, rfl, hb⟩
              exact ⟨_, rfl, (q, nn, dd), (by rw [hAF.out]; exact agree_any (by kernel_rfl) (by kernel_rfl)), (by intro t hd _; cases hd; exact T81 _), hc.after hb⟩
        · exact opOk3_quiet (fun x => .tuple #[.slice x.1 x.2.1 x.2.2, .int .i64 en, .int .i64 0]) (by intro x t hd _; cases hd; exact T71 x) (fun _ => rfl) fun x d w' hd hc => sv (run_mov rfl (E81 x)) hc
        · exact opOk3_quiet (fun x => .slice x.1 x.2.1 x.2.2) (by intro x t hd _; cases hd; exact T82 x) (fun _ => rfl) fun x d w' hd hc => sv (run_ext rfl (E71 x) rfl) hc
        · exact opOk3_quiet _ (by intro x t hd _; cases hd; exact T83 x) (fun _ => rfl) fun x d w' hd hc => sv (run_ext rfl (E71 x) rfl) hc
        · exact opOk3_quiet _ (by intro x t hd _; cases hd; exact T84 x) (fun _ => rfl) fun x d w' hd hc => sv (run_ext rfl (E71 x) rfl) hc
        · exact opOk3_quiet (fun x => .slice x.1 x.2.1 x.2.2) (by intro x t hd _; cases hd; exact T17 x) (fun _ => rfl) fun x d w' hd hc => sv (run_asg rfl (E82 x)) hc
        · exact opOk3_quiet _ (by intro x t hd _; cases hd; exact T18 x) (fun _ => rfl) fun x d w' hd hc => sv (run_asg rfl (E83 x)) hc
        · exact opOk3_quiet _ (by intro x t hd _; cases hd; exact T19 x) (fun _ => rfl) fun x d w' hd hc => sv (run_asg rfl (E84 x)) hc
      · intro xT d0 w6 hd hc
        simp only [putAll, List.foldl_cons, List.foldl_nil, List.cons_append, List.nil_append, Act.put, List.setIfInBounds_toArray, List.set_cons_succ, List.set_cons_zero]
        have hmA := Lib.hid (hm.out.trans hc)
        clear hm hc hd hlw hcw htw
        go_wp2_with fail
        go_loopw [15, 20] (fun s15 s20 wx => ∃ (a : Nat) (y : Bool), a ≤ ln + 1 ∧ s15 = .bool y ∧ s20 = .int .i64 a ∧ Hid (y = true ↔ Mt i a a) ∧ Mod (fun _ => False) w5 wx) (fun _ s20 _ => ln + 1 - (intOf s20).toNat)
        case atStart => exact ⟨0, g, Nat.zero_le _, rfl, rfl, hg, hmA.out⟩
        case round =>
          clear hg hmA
          obtain ⟨a, g, ha, rfl, rfl, hg, hm⟩ := hrel
          have hcw := Lib.hid (hce.out _ hm)
          by_cases hla : a ≤ ln
          · have hlaI : (a : Int) ≤ (ln : Int) := by omega
            have s3 : IntKind.i64.wrap ((a : Int) + 1) = (a : Int) + 1 := IntWalk.i64_in _ (by omega)
            replace hm := Lib.hid hm
            go_wp2_with (refine wpList_load_v rfl 48 _ rfl (aR.add i) rfl _ hcw.out ?_)
            go_loopw [15, 21] (fun s15 s21 wx => ∃ (x : Nat) (y : Bool), a ≤ x ∧ x ≤ ln + 1 ∧ s15 = .bool y ∧ s21 = .int .i64 x ∧ Hid (y = true ↔ Mt i a x) ∧ Mod (fun _ => False) w5 wx) (fun _ s21 _ => ln + 1 - (intOf s21).toNat)
            case atStart => exact ⟨a, g, Nat.le_refl _, by omega, rfl, rfl, hg, hm.out⟩
            case round =>
              clear hg hm hcw
              obtain ⟨x, g, hax, hx, rfl, rfl, hg, hm⟩ := hrel
              have hcw := Lib.hid (hce.out _ hm)
              by_cases hlx : x ≤ ln
              · have hlxI : (x : Int) ≤ (ln : Int) := by omega
                have s4 : IntKind.i64.wrap ((x : Int) + 1) = (x : Int) + 1 := IntWalk.i64_in _ (by omega)
                have hww := hwi.out _ hm a x
                have hlv1 := Lib.hid (hlv.out _ hm)
                have hst := Lib.hid (hMsi.out a x hax hlx)
                have hle := Lib.hid (hLei.out a x hax hlx)
                have hxl : x ≤ l.length := by rw [hln.out]; exact hlx
                have hlg := Lib.hid (fun h : RightV V (withL l rq a x) T => with_long hax hxl h)
                rw [hln.out] at hlg
                have hriv : Hid (riseV V l T rq a x = (timV V (withL l rq a x) T).2.1 - en) := Lib.hid (by rw [← hen.out]; rfl)
                by_cases hl14 : ln ≤ 14
                · rw [with_some hrr.out.1 hnv.out hax hxl (by rw [hln.out]; exact hl14)] at hww
                  unfold WiPost at hww
                  dsimp only [Option.getD_some, Option.isSome_some] at hww
                  replace hww := Lib.hid hww
                  replace hm := Lib.hid hm
                  clear hxl hlg
                  generalize riseV V l T rq a x = rs at *
                  generalize withL l rq a x = L at *
                  go_wp2_with (refine wpList_load_v rfl 48 _ rfl (aR.add i) rfl _ hcw.out ?_)
                  refine hww.out.mono ?_
                  rintro e w7 ⟨⟨qW, dW, rfl, hdW, hEW⟩, hb7⟩
                  have hm7 := hm.out.after hb7
                  have hck7 := hck.out w7 hm7 qW dW L hEW
                  have htn7 := fun wx (h : Mod (fun _ => False) w7 wx) => htn.out wx (hm7.trans h) qW dW L (els_modP hEW h (fun _ _ _ h => h))
                  have hlv7 := Lib.hid (fun wx (h : Mod (fun _ => False) w7 wx) => hlv.out wx (hm7.trans h))
                  obtain ⟨nl, hnl⟩ : ∃ nl, L.length = nl := ⟨_, rfl⟩
                  rw [hnl] at hck7 htn7 ⊢
                  replace hnl := Lib.hid hnl
                  replace htn7 := Lib.hid htn7
                  have hlw7 := Lib.hid (hlv7.out _ (Mod.refl _ _))
                  have hm7' := Lib.hid hm7
                  clear hww hcw hb7 hm hdW hEW hm7 hlv1
                  by_cases hRt : RightV V L T
                  · have hck8 := Lib.hid (hck7.mono fun _ _ h => FsPost.ok h ((fsB_iff _ _ _ _ _ _ _).2 hRt))
                    have htn8 := Lib.hid (fun wx (h : Mod (fun _ => False) w7 wx) => htn7.out wx h hRt)
                    have hth2 : 0 ≤ (timV V L T).2.1 ∧ (timV V L T).2.1 ≤ 1048576 := by
                      obtain ⟨_, h1, h2, h3, h4, _⟩ := tm_right hRt
                      have h5 : (tmP (V 0) (V 1) (V 2) (V 3) (V 4) L T).2.1 = (timV V L T).2.1 := rfl
                      omega
                    obtain ⟨hle1, hle2⟩ := hle.out hRt
                    have hst2 : Hid (Mt i a (x + 1) ↔ Mt i a x ∨ rs = bd) := Lib.hid (by
                      rw [hst.out]
                      exact or_congr_right ⟨fun h => h.2, fun h => ⟨hRt, h⟩⟩)
                    have hriv2 := hriv.out
                    clear hck7 htn7 hle hst hriv hck
                    generalize (timV V L T).2.1 = th at *
                    subst hriv2
                    have s5 : IntKind.i64.wrap (th - en) = th - en := IntWalk.i64_in _ (by omega)
                    have s6 : IntKind.u64.wrap (th - en) = th - en := IntWalk.u64_in _ (by omega)
                    have c1 : ¬ th < en := by omega
                    have c2 : ¬ th - en < bd := by omega
                    go_wp2_with (first | (refine wpList_load_v rfl 47 _ rfl (aV.add (i * 5)) rfl _ hlw7.out ?_))
                    refine hck8.out.mono ?_
                    rintro e w8 ⟨rfl, hb8⟩
                    have hm8 := (Mod.refl (fun _ => False) w7).after hb8
                    have ht9 := Lib.hid (htn8.out w8 hm8)
                    have hlw8 := Lib.hid (hlv7.out _ hm8)
                    have hm8' := Lib.hid (hm7'.out.trans hm8)
                    clear hck8 hb8 hm8 htn8 hm7' hlv7 hlw7
                    go_wp2_with (first | (refine wpList_load_v rfl 47 _ rfl (aV.add (i * 5)) rfl _ hlw8.out ?_))
                    refine ht9.out.mono ?_
                    rintro e w9 ⟨qz, nz, dz, rfl, hb9⟩
                    have hm9 := Lib.hid (hm8'.out.after hb9)
                    clear ht9 hb9 hm8' hlw8
                    cases g with
                    | true =>
                      have hg2 : Hid (true = true ↔ Mt i a (x + 1)) := Lib.hid ⟨fun _ => hst2.out.2 (.inl (hg.out.1 rfl)), fun _ => rfl⟩
                      clear hst2 hg
                      go_wp2_with fail
                      go_roundw
                      case rel => exact ⟨x + 1, true, by omega, by omega, rfl, by simp, Lib.hid (by have := hg2.out; simpa using this), hm9.out⟩
                      case measure => simp [intOf]; omega
                    | false =>
                      have hgf : ¬ Mt i a x := fun h => by have := hg.out.2 h; cases this
                      by_cases he : th - en = bd
                      · have d1 : (th - en == bd) = true := beq_iff_eq.2 he
                        have hg2 : Hid (true = true ↔ Mt i a (x + 1)) := Lib.hid ⟨fun _ => hst2.out.2 (.inr he), fun _ => rfl⟩
                        replace he := Lib.hid he
                        clear hst2 hg hgf
                        go_wp2_with fail
                        go_roundw
                        case rel => exact ⟨x + 1, true, by omega, by omega, rfl, by simp, Lib.hid (by have := hg2.out; simpa using this), hm9.out⟩
                        case measure => simp [intOf]; omega
                      · have d1 : (th - en == bd) = false := beq_eq_false_iff_ne.2 he
                        have hg2 : Hid (false = true ↔ Mt i a (x + 1)) := Lib.hid ⟨fun h => (by cases h), fun h => by rcases hst2.out.1 h with h | h; exact absurd h hgf; exact absurd h he⟩
                        replace he := Lib.hid he
                        clear hst2 hg hgf
                        go_wp2_with fail
                        go_roundw
                        case rel => exact ⟨x + 1, false, by omega, by omega, rfl, by simp, hg2, hm9.out⟩
                        case measure => simp [intOf]; omega
                  · have hck8 := Lib.hid (hck7.mono fun _ _ h => FsPost.bad h (Bool.eq_false_iff.2 fun e => hRt ((fsB_iff _ _ _ _ _ _ _).1 e)))
                    have hg2 : Hid (g = true ↔ Mt i a (x + 1)) := Lib.hid (by
                      rw [hg.out, hst.out]
                      exact ⟨.inl, fun h => h.elim id fun h => absurd h.1 hRt⟩)
                    clear hck7 htn7 hle hst hriv hck hg
                    go_wp2_with (first | (refine wpList_load_v rfl 47 _ rfl (aV.add (i * 5)) rfl _ hlw7.out ?_))
                    refine hck8.out.mono ?_
                    rintro e w8 ⟨bz, rfl, hb8⟩
                    have hm8' := Lib.hid (hm7'.out.after hb8)
                    clear hck8 hb8 hm7' hlv7 hlw7
                    go_wp2_with fail
                    go_roundw
                    case rel => exact ⟨x + 1, g, by omega, by omega, rfl, by simp, hg2, hm8'.out⟩
                    case measure => simp [intOf]; omega
                · rw [with_none (by rw [hln.out]; exact hl14)] at hww
                  unfold WiPost at hww
                  dsimp only [Option.getD_none, Option.isSome_none, List.length_nil] at hww
                  have hg2 : Hid (g = true ↔ Mt i a (x + 1)) := Lib.hid (by
                    rw [hg.out, hst.out]
                    exact ⟨.inl, fun h => h.elim id fun h => absurd (hlg.out h.1) hl14⟩)
                  replace hww := Lib.hid hww
                  replace hm := Lib.hid hm
                  clear hst hle hriv hg hxl hlg hck htn
                  go_wp2_with (refine wpList_load_v rfl 48 _ rfl (aR.add i) rfl _ hcw.out ?_)
                  refine hww.out.mono ?_
                  rintro e w7 ⟨⟨qW, dW, rfl, hdW, hEW⟩, hb7⟩
                  have hm7 := Lib.hid (hm.out.after hb7)
                  clear hww hcw hb7 hm hdW hEW
                  go_wp2_with fail
                  go_roundw
                  case rel => exact ⟨x + 1, g, by omega, by omega, rfl, by simp, hg2, hm7.out⟩
                  case measure => simp [intOf]; omega
              · obtain rfl : x = ln + 1 := by omega
                have hlxI : ¬ ((ln + 1 : Nat) : Int) ≤ (ln : Int) := by omega
                have hg2 : Hid (g = true ↔ Mt i (a + 1) (a + 1)) := Lib.hid (by rw [hg.out]; exact hMri.out a)
                replace hm := Lib.hid hm
                clear hg
                go_wp2_with (refine wpList_load_v rfl 48 _ rfl (aR.add i) rfl _ hcw.out ?_)
                go_roundw
                case rel => exact ⟨a + 1, g, by omega, rfl, by simp, hg2, hm.out⟩
                case measure => simp [intOf]; omega
          · obtain rfl : a = ln + 1 := by omega
            have hlaI : ¬ ((ln + 1 : Nat) : Int) ≤ (ln : Int) := by omega
            have hg2 : Hid (g = true ↔ Mt (i + 1) 0 0) := Lib.hid (by rw [hg.out]; exact hMvi.out _)
            replace hm := Lib.hid hm
            clear hg
            go_wp2_with (refine wpList_load_v rfl 48 _ rfl (aR.add i) rfl _ hcw.out ?_)
            go_roundw
            case rel => exact ⟨i + 1, g, by omega, rfl, by simp, hg2, hm.out⟩
            case measure => simp [intOf]; omega
    · obtain rfl : i = 2 := by omega
      have hPr := Lib.hid (hP5.out.below (hm.below (Nat.le_refl _) (fun _ h => h.elim)))
      have hbr := Lib.hid (hb5'.out.trans (hm.below hb5'.out.size (fun _ h => h.elim)))
      have hge := hg.out.trans hMa.out
      obtain ⟨tot, htot⟩ : ∃ tot, totP F rows T = tot := ⟨_, rfl⟩
      obtain ⟨R, ri, ec2, hX⟩ : ∃ R ri ec2, pputP F rows T rq = (R, ri, ec2) := ⟨_, _, _, rfl⟩
      have hcode : ec2 = ec := by have := put_code F rows T hok.out rq; rw [hX, hec.out] at this; exact this
      subst hcode
      have htt := put_tot hok.out rq
      rw [hX, htot] at htt
      dsimp only at htt
      have htb : 0 ≤ tot ∧ tot ≤ 2097152 := by
        have := totK_bd hok.out F.length (Nat.le_refl _)
        have h2 : totK F rows T F.length = tot := htot
        rw [h2, hF2.out] at this
        omega
      have hri : Hid (ec2 = 0 → ri = pr ∧ 0 ≤ whereP R rq) := Lib.hid (fun h => by
        have h0 := hec.out.trans h
        have h1 := (rise_bd hok.out h0).2.2.1
        have h2 := put_where hok.out h0
        rw [hX] at h1 h2
        exact ⟨h1.trans hpr.out, h2⟩)
      have hno : Hid (ec2 ≠ 0 → R = rows) := Lib.hid (fun h => by
        have h1 := put_no (fl := F) (rows := rows) (t := T) (req := rq) (by rw [hec.out]; exact h)
        rw [hX] at h1
        exact congrArg (·.1) h1)
      have ht6 := hPr.out.totalE htot
      clear hm hg hMa hMr hMv hMs hLe hRi hni hEl hRI hR16 hF5 hT5 hP5 hb5' hec hok
      go_wp2_with fail
      refine ht6.mono ?_
      clear ht6
      rintro e w6 ⟨rfl, hb6⟩
      have hpu := Lib.hid ((hPr.out.below hb6).putE (by omega) hX hw)
      have hb6' := Lib.hid (hbr.out.trans (hb6.mono hbr.out.size))
      clear hPr hbr hb6
      replace hX := Lib.hid hX
      go_wp2_with fail
      refine hpu.out.mono ?_
      clear hpu
      rintro e w7 ⟨rfl, hP7, hb7⟩
      have hb7' := Lib.hid (hb6'.out.trans (hb7.mono hw2.out))
      clear hb7 hb6'
      by_cases he : ec2 = 0
      · subst he
        obtain ⟨hb1, hp0, hp1⟩ := hbd0.out rfl
        obtain ⟨hr1, hr2⟩ := hri.out rfl
        obtain rfl : g = true := hge.2 rfl
        subst hb1
        subst hr1
        have d1 : (ri == 4294967296) = false := beq_eq_false_iff_ne.2 (by omega)
        have s5 : IntKind.u64.wrap ri = ri := IntWalk.u64_in _ (by omega)
        have s6 : IntKind.i64.wrap (tot + ri) = tot + ri := IntWalk.i64_in _ (by omega)
        have htl := Lib.hid (hP7.totalE htt)
        have hhs := Lib.hid (fun wx (h : Below w7.heap.size w7 wx) => (hP7.below h).has rq hw)
        rw [decide_eq_true hr2] at hhs
        replace htt := Lib.hid htt
        clear hP7 hbd0 hbd1 hri hno hge hr2
        go_wp2_with fail
        refine htl.out.mono ?_
        rintro e w8 ⟨rfl, hb8⟩
        have hh9 := Lib.hid (hhs.out w8 hb8)
        have hb8' := Lib.hid (hb7'.out.trans (hb8.mono hb7'.out.size))
        clear htl hhs hb8 hb7'
        go_wp2_with fail
        refine hh9.out.mono ?_
        rintro e w9 ⟨rfl, rfl⟩
        go_wp2_with fail
        go_ret
        exact ⟨rfl, hb8'.out⟩
      · have hb1 := hbd1.out he
        obtain rfl := hno.out he
        have hgf : g = false := by
          cases g with
          | false => rfl
          | true => exact absurd (hge.1 rfl) he
        subst hgf
        subst hb1
        have d1 : (ec2 == 0) = false := beq_eq_false_iff_ne.2 he
        have d2 : (ec2 != 0) = true := by rw [bne, d1]; rfl
        have htl := Lib.hid (hP7.totalE htot)
        have hhs := Lib.hid (fun wx (h : Below w7.heap.size w7 wx) => (hP7.below h).has rq hw)
        rw [decide_eq_false (show ¬ 0 ≤ whereP R rq by have := hwl.out; omega)] at hhs
        replace htot := Lib.hid htot
        clear hP7 hbd0 hbd1 hri hno hge htt
        go_wp2_with fail
        refine htl.out.mono ?_
        rintro e w8 ⟨rfl, hb8⟩
        have hh9 := Lib.hid (hhs.out w8 hb8)
        have hb8' := Lib.hid (hb7'.out.trans (hb8.mono hb7'.out.size))
        clear htl hhs hb8 hb7'
        go_wp2_with fail
        refine hh9.out.mono ?_
        rintro e w9 ⟨rfl, rfl⟩
        go_wp2_with fail
        go_ret
        exact ⟨rfl, hb8'.out⟩
end Go.Proofs.Ytpbmeeogledmdae
