/-
  Layer 13: PlanRight: the plain law, the walk.
-/
import Derived.Test.YtdmnoogppmckaaaGreatHo
namespace Go.Proofs.YtdmnoogppmckaaaGreat
open Go.RowKit

theorem where_gone {rows : List Rou2} {req : Int} (h : ∀ l ∈ rows, ∀ s ∈ l, s.1 ≠ req) : whereP rows req = -1 := by
  rcases fstI_cases (fun l : Rou2 => l.any (fun s => s.1 == req)) rows with ⟨h1, _⟩ | ⟨k, hk, _, h1, _⟩
  · exact h1
  · obtain ⟨s, hs, e⟩ := List.any_eq_true.1 h1
    exact absurd (by simpa using e) (h _ (List.getElem_mem hk) s hs)
theorem take_gone {fl : List Ve} {rows : List Rou2} {t : List Rq} (hP : PlnOk fl rows t) (req : Int) : whereP (ptakP rows req).1 req = -1 := by
  unfold ptakP
  by_cases h : whereP rows req < 0
  · rw [if_pos h]
    exact where_gone (where_none h)
  · rw [if_neg h]
    obtain ⟨i, hi, e, s0, hs0, e0⟩ := where_some (by omega : 0 ≤ whereP rows req)
    rw [e, Int.toNat_natCast]
    refine where_gone fun l hl s hs hq => ?_
    obtain ⟨j, hj, rfl⟩ := List.mem_iff_getElem.1 hl
    rw [List.getElem_set] at hs
    by_cases hij : i = j
    · rw [if_pos hij] at hs
      exact (woP_mem.1 hs).2 hq
    · rw [if_neg hij] at hs
      refine hij (hP.one i j s0 s ?_ ?_ (by rw [e0, hq]))
      · rw [List.getD_eq_getElem?_getD, List.getElem?_eq_getElem hi]; exact hs0
      · rw [List.getD_eq_getElem?_getD, List.getElem?_eq_getElem (by simpa using hj)]; exact hs
theorem take_code (rows : List Rou2) (req : Int) : (ptakP rows req).2 = if 0 ≤ whereP rows req then 0 else 12 := by
  unfold ptakP
  by_cases h : whereP rows req < 0
  · rw [if_pos h, if_neg (by omega)]
  · rw [if_neg h, if_pos (by omega)]
theorem put_has {fl : List Ve} {rows : List Rou2} {t : List Rq} (hP : PlnOk fl rows t) {req : Int} (h : (pputP fl rows t req).2.2 = 0) : 0 ≤ whereP (pputP fl rows t req).1 req ∧ 0 ≤ (pputP fl rows t req).2.1 := by
  have hk := put_keeps hP req
  by_cases h' : (prcP fl rows t req).2.2 = 0
  · obtain ⟨i, a, b, hi, hab, hb, _, hr, hw, _, h0, _, h1, h2⟩ := put_ok hP h'
    rw [h2] at hk ⊢
    dsimp only at hk ⊢
    have hil : i < rows.length := by rw [hP.len]; exact hi
    have hg : (rows.set i (withL (rows.getD i []) req a b)).getD i [] = withL (rows.getD i []) req a b := by rw [getD_setS, if_pos ⟨rfl, hil⟩]
    have hwi : whereP (rows.set i (withL (rows.getD i []) req a b)) req = i := where_one hk (s := (req, 0)) (by rw [hg]; exact (withL_in hab hb).2 (.inl rfl))
    exact ⟨by omega, h0⟩
  · rw [put_no h'] at h
    exact absurd h h'
set_option maxHeartbeats 8000000 in
set_option maxRecDepth 100000 in
theorem PlanRight_walk (p : Option Addr) (c : Nat) (B : List Int) (n wd k f : Int) (pA : Option Addr) (cA : Nat) (acts : List (Int × Int)) (w : World) (hA : DrA w p B n wd) (hf : 0 ≤ f ∧ f < 256) (hE : Els w pA 2 ((acts.take 30).map acV)) (hbl : acts.length ≤ 9223372036854775807) (hr : AcRg acts) :
    Calls Tryz.prog 7 #[.agg (ptC p c B n wd k f), .slice pA acts.length cA] w fun e w' => e = .returned (.bool true) ∧ Below w.heap.size w w' := by
  have hnc := pt_newC B n wd f hf hA.nb
  have hTl : (ptT B n wd).length ≤ 1000 := by
    have : (ptT B n wd).length = ptN n := drT_len _ _ _ _
    have := hA.nb
    unfold ptN at *
    omega
  have hFl : (ptF B n f).length ≤ 1000 := by have := (newC_ok0 hnc).1; omega
  obtain ⟨C, hC⟩ : ∃ C, ptC p c B n wd k f = C := ⟨_, rfl⟩
  have hc5 : C.size = 5 := by rw [← hC]; rfl
  have hpt := Lib.hid (fun wx (hb : Below w.heap.size w wx) => ptparts_calls p c B n wd k f wx (hA.below hb) hf)
  rw [hC] at hpt ⊢
  unfold PtPost at hpt
  have hl0 := Lib.hid (fun wx (h : Blk wx w.heap.size C 38) => run_load_row (P := Tryz.prog) wx w.heap.size 38 C _ _ h Tryz.underlying38 rfl (by rw [hc5]; kernel_rfl))
  have hB0 := Lib.hid (Blk.new w C 38)
  have hb0 := Lib.hid (new_below w (.cells C 38))
  replace hE := Lib.hid hE
  replace hr := Lib.hid hr
  replace hc5 := Lib.hid hc5
  clear hC hA
  generalize ptF B n f = F at *
  generalize ptT B n wd = T at *
  go_enter Tryz.func7, Tryz.ntmps7
  go_wp2_with fail
  refine (works13_calls _).mono ?_
  rintro e w1 ⟨rfl, hb1⟩
  have hl1 := Lib.hid (hl0.out w1 (hB0.out.mod ((Mod.refl (fun _ => False) _).after hb1) (fun h => h)))
  replace hb1 := Lib.hid (hb0.out.trans (hb1.mono hb0.out.size))
  clear hl0 hB0 hb0
  go_wp2_with (refine wpList_load_v rfl 38 _ rfl ⟨w.heap.size, 0, none⟩ rfl _ hl1.out ?_)
  refine (hpt.out _ hb1.out).mono ?_
  rintro e w2 ⟨⟨q, d, q', d', rfl, hd, hd', hF, hT, hqf, hqf'⟩, hb2⟩
  have hnew := Lib.hid (pnew_calls q q' d d' F T w2 hF hFl hT hTl)
  unfold NwPost at hnew
  have hb2w := Lib.hid (hb1.out.trans (hb2.mono hb1.out.size))
  replace hF := Lib.hid hF
  replace hT := Lib.hid hT
  clear hb1 hb2 hpt hl1 hqf hqf'
  go_wp2_with fail
  refine hnew.out.mono ?_
  rintro e w3 ⟨hb3, hor⟩
  rcases hor with ⟨h, _⟩ | ⟨_, b, gT, gM, G, rfl, hG, hPl⟩
  · exact absurd hnc h
  have hP := Lib.hid (PSt.new hG hPl hnc hTl)
  replace hb3 := Lib.hid hb3
  clear hG hPl hnew
  go_wp2_with fail
  go_loopw [9] (fun s9 wx => ∃ (i N : Nat) (rows : List Rou2), i ≤ acts.length ∧ i ≤ 30 ∧ s9 = .int .i64 i ∧ N ≤ i ∧ PSt w2.heap.size wx b gT gM N F rows T ∧ Below w2.heap.size w2 wx) (fun s9 _ => acts.length - (intOf s9).toNat)
  case atStart => exact ⟨0, 0, _, Nat.zero_le _, by omega, rfl, Nat.le_refl _, hP.out, hb3.out⟩
  case round =>
    clear hP hb3
    obtain ⟨i, N, rows, hi, hi30, rfl, hN, hP, hb⟩ := hrel
    by_cases hlt : i < acts.length ∧ i < 30
    · have hltI : (i : Int) < (acts.length : Int) := by omega
      have hlt30 : (i : Int) < 30 := by omega
      have hk0 : (0 : Int) ≤ (i : Int) := by omega
      have s1 : IntKind.i64.wrap ((i : Int) + 1) = (i : Int) + 1 := IntWalk.i64_in _ (by omega)
      obtain ⟨tot, htot⟩ : ∃ tot, totP F rows T = tot := ⟨_, rfl⟩
      have hp := hP.totalE htot
      replace hP := Lib.hid hP
      replace hb := Lib.hid hb
      replace htot := Lib.hid htot
      go_wp2_with fail
      refine hp.mono ?_
      clear hp
      rintro e w4 ⟨rfl, hb4⟩
      replace hP := Lib.hid (hP.out.below hb4)
      replace hb := Lib.hid (hb.out.trans (hb4.mono hb.out.size))
      clear hb4
      have hbw := hb2w.out.trans (hb.out.mono hb2w.out.size)
      obtain ⟨a, rfl⟩ := (hE.out.below hbw).some_of (k := i) (by simp; omega)
      have c0 := (hE.out.below hbw).cells a rfl i (acV acts[i]) 0 (.int .u8 acts[i].1) (by rw [List.getElem?_map, List.getElem?_take_of_lt hlt.2, List.getElem?_eq_getElem hlt.1]; rfl) rfl
      have c1 := (hE.out.below hbw).cells a rfl i (acV acts[i]) 1 (.int .u8 acts[i].2) (by rw [List.getElem?_map, List.getElem?_take_of_lt hlt.2, List.getElem?_eq_getElem hlt.1]; rfl) rfl
      rw [Nat.add_zero] at c0
      rw [← addr_add_add, addr_one] at c1
      have hrg := hr.out _ (List.getElem_mem hlt.1)
      obtain ⟨x, y, hxy⟩ : ∃ x y, acts[i] = (x, y) := ⟨_, _, rfl⟩
      rw [hxy] at c0 c1 hrg
      dsimp only at c0 c1 hrg
      clear hxy
      have e1 := Int.emod_nonneg y (show (12 : Int) ≠ 0 by omega)
      have e2 := Int.emod_lt_of_pos y (show (0 : Int) < 12 by omega)
      have e3 := Int.emod_nonneg x (show (4 : Int) ≠ 0 by omega)
      have e4 := Int.emod_lt_of_pos x (show (0 : Int) < 4 by omega)
      have s2 : IntKind.i64.wrap (y % 12 - 1) = y % 12 - 1 := IntWalk.i64_in _ (by omega)
      have hw : wf64 (y % 12 - 1) := by unfold wf64; omega
      have hgB := Lib.hid hP.out.gB
      clear hbw
      by_cases hx : x % 4 = 1
      · have hhas := hP.out.has (y % 12 - 1) hw
        have htk := hP.out.take (y % 12 - 1) hw
        have hgn := take_gone hP.out.ok (y % 12 - 1)
        have htt := take_tot hP.out.ok (y % 12 - 1)
        rw [take_code] at htk
        rw [htot.out] at htt
        have hmg : Mod (fun k => k = gT ∨ k = gM) w4 w4 → True := fun _ => trivial
        clear hmg
        obtain ⟨W0, hW0⟩ : ∃ W0 : Bool, decide (0 ≤ whereP rows (y % 12 - 1)) = W0 := ⟨_, rfl⟩
        rw [hW0] at hhas
        obtain ⟨fc, hfc⟩ : ∃ fc : Int, (if 0 ≤ whereP rows (y % 12 - 1) then (0 : Int) else 12) = fc := ⟨_, rfl⟩
        rw [hfc] at htk
        have hor : (W0 = true ∧ fc = 0) ∨ (W0 = false ∧ fc = 12) := by
          rw [← hW0, ← hfc]
          by_cases h0 : 0 ≤ whereP rows (y % 12 - 1)
          · rw [if_pos h0]; exact .inl ⟨decide_eq_true h0, rfl⟩
          · rw [if_neg h0]; exact .inr ⟨decide_eq_false h0, rfl⟩
        clear hW0 hfc
        generalize (ptakP rows (y % 12 - 1)).1 = rows2 at *
        go_wp2_with fail
        refine hhas.mono ?_
        clear hhas
        rintro e w5 ⟨rfl, rfl⟩
        go_wp2_with fail
        refine htk.mono ?_
        rintro e w6 ⟨rfl, hP6, hm⟩
        replace hb := Lib.hid (hb.out.trans (hm.below hb.out.size (fun k hk => by have := hgB.out; omega)))
        have hhas := hP6.has (y % 12 - 1) hw
        rw [hgn] at hhas
        have hto := hP6.total
        obtain ⟨tot2, htot2⟩ : ∃ tot2, totP F rows2 T = tot2 := ⟨_, rfl⟩
        rw [htot2] at hto htt
        have hP6' := Lib.hid hP6
        have hgt : decide (tot2 > tot) = false := decide_eq_false (by omega)
        clear htk hm hP hP6 hgn htot2
        rcases hor with ⟨rfl, rfl⟩ | ⟨rfl, rfl⟩
        all_goals
          go_wp2_with fail
          refine hhas.mono ?_
          rintro e w7 ⟨rfl, rfl⟩
          go_wp2_with fail
          refine hto.mono ?_
          rintro e w8 ⟨rfl, hb8⟩
          replace hP6' := Lib.hid (hP6'.out.below hb8)
          replace hb := Lib.hid (hb.out.trans (hb8.mono hb.out.size))
          clear hb8 hto hhas
          have hho := holds_calls hP6'.out (by omega) q q' d d' (hF.out.below hb.out) (hT.out.below hb.out)
          go_wp2_with fail
          refine hho.mono ?_
          rintro e w9 ⟨rfl, hb9⟩
          replace hP6' := Lib.hid (hP6'.out.below hb9)
          replace hb := Lib.hid (hb.out.trans (hb9.mono hb.out.size))
          clear hb9 hho
          go_wp2_with fail
          go_roundw
          case rel => exact ⟨i + 1, N, _, by omega, by omega, by simp, by omega, hP6'.out, hb.out⟩
          case measure => simp [intOf]; omega
      · have hpu := hP.out.put (by omega) (y % 12 - 1) hw
        have hph := fun h => put_has hP.out.ok (req := y % 12 - 1) h
        have hpt := put_tot hP.out.ok (y % 12 - 1)
        rw [htot.out] at hpt
        have htb := totK_bd (put_keeps hP.out.ok (y % 12 - 1)) F.length (Nat.le_refl _)
        have hF4 := (newC_ok0 hnc).1
        obtain ⟨R, ri, ec, hY⟩ : ∃ R ri ec, pputP F rows T (y % 12 - 1) = (R, ri, ec) := ⟨_, _, _, rfl⟩
        rw [hY] at hpu hph hpt htb
        dsimp only at hpu hph hpt htb
        clear hY
        go_wp2_with fail
        refine hpu.mono ?_
        rintro e w6 ⟨rfl, hP6, hm⟩
        replace hb := Lib.hid (hb.out.trans (hm.below hb.out.size (fun k hk => by have := hgB.out; omega)))
        have hhas := hP6.has (y % 12 - 1) hw
        have hto := hP6.total
        rw [hpt] at hto
        change 0 ≤ totP F R T ∧ totP F R T ≤ _ at htb
        rw [hpt] at htb
        have s3 : IntKind.i64.wrap (tot + ri) = tot + ri := IntWalk.i64_in _ (by omega)
        have hP6' := Lib.hid hP6
        clear hpu hm hP hP6 hpt htb
        by_cases hec : ec = 0
        · subst hec
          obtain ⟨h1, h2⟩ := hph rfl
          rw [decide_eq_true h1] at hhas
          have hng : decide (ri < 0) = false := decide_eq_false (by omega)
          clear hph h1
          go_wp2_with fail
          refine hhas.mono ?_
          rintro e w7 ⟨rfl, rfl⟩
          go_wp2_with fail
          refine hto.mono ?_
          rintro e w8 ⟨rfl, hb8⟩
          replace hP6' := Lib.hid (hP6'.out.below hb8)
          replace hb := Lib.hid (hb.out.trans (hb8.mono hb.out.size))
          clear hb8 hto hhas
          have hho := holds_calls hP6'.out (by omega) q q' d d' (hF.out.below hb.out) (hT.out.below hb.out)
          go_wp2_with fail
          refine hho.mono ?_
          rintro e w9 ⟨rfl, hb9⟩
          replace hP6' := Lib.hid (hP6'.out.below hb9)
          replace hb := Lib.hid (hb.out.trans (hb9.mono hb.out.size))
          clear hb9 hho
          go_wp2_with fail
          go_roundw
          case rel => exact ⟨i + 1, N + 1, _, by omega, by omega, by simp, by omega, hP6'.out, hb.out⟩
          case measure => simp [intOf]; omega
        · have hec' : (ec == 0) = false := beq_eq_false_iff_ne.2 hec
          clear hph
          go_wp2_with fail
          refine hto.mono ?_
          rintro e w8 ⟨rfl, hb8⟩
          replace hP6' := Lib.hid (hP6'.out.below hb8)
          replace hb := Lib.hid (hb.out.trans (hb8.mono hb.out.size))
          clear hb8 hto hhas
          have hho := holds_calls hP6'.out (by omega) q q' d d' (hF.out.below hb.out) (hT.out.below hb.out)
          go_wp2_with fail
          refine hho.mono ?_
          rintro e w9 ⟨rfl, hb9⟩
          replace hP6' := Lib.hid (hP6'.out.below hb9)
          replace hb := Lib.hid (hb.out.trans (hb9.mono hb.out.size))
          clear hb9 hho
          go_wp2_with fail
          go_roundw
          case rel => exact ⟨i + 1, N + 1, _, by omega, by omega, by simp, by omega, hP6'.out, hb.out⟩
          case measure => simp [intOf]; omega
    · have hho := holds_calls hP (by omega) q q' d d' (hF.out.below hb) (hT.out.below hb)
      replace hb := Lib.hid (hb2w.out.trans (hb.mono hb2w.out.size))
      clear hP hF hT
      by_cases hl : i < acts.length
      · obtain rfl : i = 30 := by omega
        have hltI : (30 : Int) < (acts.length : Int) := by omega
        go_wp2_with fail
        refine hho.mono ?_
        rintro e w9 ⟨rfl, hb9⟩
        replace hb := Lib.hid (hb.out.trans (hb9.mono hb.out.size))
        clear hb9 hho
        go_wp2_with fail
        go_ret
        exact ⟨rfl, hb.out⟩
      · obtain rfl : i = acts.length := by omega
        go_wp2_with fail
        refine hho.mono ?_
        rintro e w9 ⟨rfl, hb9⟩
        replace hb := Lib.hid (hb.out.trans (hb9.mono hb.out.size))
        clear hb9 hho
        go_wp2_with fail
        go_ret
        exact ⟨rfl, hb.out⟩
end Go.Proofs.YtdmnoogppmckaaaGreat
