/-
  Layer 8: LoadLess: it returns true.
-/
import Derived.Test.YtaijimckbpplnaaLf
import Derived.Test.YtaijimckbpplnaaLq
namespace Go.Proofs.Ytaijimckbpplnaa
open Go.RowKit

theorem kI_A {A D : Nat} (h : A < D) : kI A D (A + 1) = kI A D A := by
  unfold kI
  rw [if_neg (by omega), if_pos (by omega), if_neg (by omega), if_neg (by omega)]
  omega
theorem kI_D {A D : Nat} (h : A < D) : kI A D (D + 1) = kI A D D := by
  unfold kI
  rw [if_pos (by omega), if_neg (by omega), if_pos (by omega)]
  omega
theorem kI_S {A D i : Nat} (h : A < D) (hA : i ≠ A) (hD : i ≠ D) : kI A D (i + 1) = kI A D i + 1 := by
  unfold kI
  by_cases h1 : D < i
  · rw [if_pos (by omega), if_pos (by omega)]; omega
  · rw [if_neg (by omega), if_neg h1]
    by_cases h2 : A < i
    · rw [if_pos (by omega), if_pos h2]; omega
    · rw [if_neg (by omega), if_neg h2]
theorem kI_lt {A D i n : Nat} (h : A < D) (hi : i < n) (hn : D < n) (hA : i ≠ A) (hD : i ≠ D) : kI A D i + 2 < n := by
  unfold kI
  split
  · omega
  · split <;> omega
theorem kI_0 (A D : Nat) : kI A D 0 = 0 := by
  unfold kI
  rw [if_neg (by omega), if_neg (by omega)]
theorem kI_end {A D n : Nat} (h : D < n) : kI A D n = n - 2 := by
  unfold kI
  rw [if_pos h]
set_option maxHeartbeats 8000000 in
set_option maxRecDepth 100000 in
theorem less_calls (p p' : Option Addr) (c c' : Nat) (ns B : List Int) (w : World) (hN : Els w p 1 ((ns.take 12).map u16V)) (hnb : ns.length ≤ 9223372036854775807) (hr : ∀ n ∈ ns, 0 ≤ n ∧ n < 65536)
    (hB : Els w p' 1 ((B.take 12).map u8C)) (hbb : B.length ≤ 9223372036854775807) (hbr : ∀ n ∈ B, 0 ≤ n ∧ n < 256) (wh : Int) (hwh : 0 ≤ wh ∧ wh < 256) :
    Calls Try.prog 6 #[.slice p ns.length c, .slice p' B.length c', .int .u8 wh] w fun e w' => e = .returned (.bool true) ∧ Below w.heap.size w w' := by
  have hW := Lib.hid (fun w => works8_calls w)
  have hT0 := Lib.hid (fun wx (h : Below w.heap.size w wx) => table_calls p c ns wx (hN.below h) hnb hr)
  have hM0 := Lib.hid (fun wx (h : Below w.heap.size w wx) => made_calls p' c' B wx (hB.below h) hbb hbr)
  have hTl := tblP_len ns
  obtain ⟨ht6, ht12⟩ := tfP_len 9 ns
  have htm := tfP_mem (x := 9) (by omega) hr
  obtain ⟨hl12, hl2, hl3⟩ := mdP_ok B
  have htold : toldP (mdP B) (tfP 9 ns) = 0 := told_ok hl2 (by omega) (fun q hq => (htm q hq).1) (fun s hs => by have := hl3 s hs; omega)
  have hfill : Hid (tfP 9 ns = tblP ns ++ List.replicate (6 - (tblP ns).length) (rqLd 9)) := Lib.hid rfl
  clear hN hB hr hbr
  generalize tblP ns = T at *
  generalize tfP 9 ns = t at *
  generalize mdP B = l at *
  have hT12 : T.length ≤ 12 := by omega
  clear hTl
  have hpr := Lib.hid (prP_ok htold)
  obtain ⟨-, hkn⟩ := toldP_zero htold
  have hle := Lib.hid (fun k (hk : k ≤ l.length) => onK_le htold hk)
  have hnn := Lib.hid (fun k (hk : k ≤ l.length) => onK_nonneg htold hk)
  have hlo := Lib.hid (fun s (hs : s ∈ l) => less_ok hl2 t hs)
  have htw := Lib.hid (fun req => prP_ok (told_ok (rou_woP hl2 req) (Nat.le_trans (woP_len l req) (by omega)) (fun q hq => (htm q hq).1) (fun s hs => by have := hl3 s (woP_mem.1 hs).1; omega)))
  have hpk : Hid (pkP l t = (mostL ((List.range l.length).map fun i => onK l t (i + 1)), 0)) := Lib.hid (by unfold pkP; rw [prP_ok htold])
  have hfm := Lib.hid (fun M hM h0 => fit_most htold (M := M) hM h0)
  have hkd : Hid (∀ s ∈ l, (s.2 = 0 ∨ s.2 = 1) ∧ ∃ n : Nat, s.1 = n ∧ ∃ h : n < t.length, 1 ≤ t[n] 8 ∧ t[n] 8 ≤ 1000) := Lib.hid hkn
  clear htm hl2 hl3 htold hkn
  replace ht6 := Lib.hid ht6
  have hb0 := Lib.hid (Below.refl w.heap.size w)
  have r9 := Lib.hid (run_rqLd 9)
  go_enter Try.func6, Try.ntmps6
  go_wp2_with fail
  refine (hW.out _).mono ?_
  rintro e w1 ⟨rfl, hb1⟩
  go_wp2_with fail
  refine (hT0.out _ hb1).mono ?_
  rintro e w2 ⟨v, rfl, hO, hb2⟩
  replace hb2 := hb1.trans (hb2.mono hb1.size)
  replace hO := own_base hO hb1.size
  clear hb1 hT0 hW
  go_wp2_with fail
  go_loopw [7] (fun s5 wx => ∃ m : Nat, T.length ≤ m ∧ (m ≤ 6 ∨ m = T.length) ∧ wx.ownsRow w.heap.size 55 10 s5 m ((T ++ List.replicate (m - T.length) (rqLd 9)).map rqV).flatten ∧ Below w.heap.size w wx) (fun s5 _ => 6 - lenV s5)
  case atStart => exact ⟨T.length, Nat.le_refl _, .inr rfl, by simpa using hO, hb2⟩
  case round =>
    clear hO hb2
    obtain ⟨m, hm1, hm2, hO, hb⟩ := hrel
    obtain ⟨q, m', d, rfl⟩ := own_isS hO
    obtain rfl := own_lenF hO
    have hm0 : (0 : Int) ≤ (m' : Int) := by omega
    by_cases hlt : m' < 6
    · have hltI : (m' : Int) < 6 := by omega
      have hst := Lib.hid (fill_flat T 9 (m' - T.length))
      have hmm : Hid (m' + 1 - T.length = m' - T.length + 1) := Lib.hid (by omega)
      have hOA := Lib.hid (own_mod hO ((Mod.refl (fun _ => False) wr).alloc (.cells (rqV (rqLd 9)).toArray 55)) (fun _ _ h => h))
      have hzA := Lib.hid (show w.heap.size ≤ (wr.alloc (.cells (rqV (rqLd 9)).toArray 55)).heap.size by have := hb.size; simp; omega)
      have hbA := Lib.hid (hb.alloc hb.size (.cells (rqV (rqLd 9)).toArray 55))
      clear hO hb
      go_wp2_with (first | (refine wpList_build1_v rfl 55 4 _ rfl (.int .i64 9) rfl _ (r9.out _) ?_) |
        (refine wpList_bs1 rfl 33 1 0 _ rfl (.agg (rqV (rqLd 9)).toArray) rfl _ _ (rsl_rq _ _) ?_) |
        (refine wpList_appG rq_el rfl _ _ rfl w.heap.size hzA.out _ _ _ rfl hOA.out (by omega) ⟨wr.heap.size, 0, none⟩ 1 1 (rqV (rqLd 9)) rfl rfl (by omega) (row_cells (Blk.new wr _ _)) (rq_one _) ?_; intro v7 w7 hO7 hg7))
      have hb7 := Lib.hid (grown_low hbA.out (Nat.le_refl _) (Nat.le_refl _) hOA.out hg7)
      rw [← hst.out, ← hmm.out] at hO7
      replace hO7 := Lib.hid hO7
      clear hOA hzA hbA hg7
      go_roundw
      case rel => exact ⟨m' + 1, by omega, .inl (by omega), hO7.out, hb7.out⟩
      case measure =>
        obtain ⟨q7, m7, d7, rfl⟩ := own_isS hO7.out
        obtain rfl := own_lenF hO7.out
        simp [lenV]
        omega
    · have hlI : ¬ ((m' : Int) < 6) := by omega
      have e6 : m' - T.length = 6 - T.length := by omega
      rw [e6, ← hfill.out] at hO
      have hml : m' = t.length := by rw [hfill.out, List.length_append, List.length_replicate]; omega
      subst hml
      obtain ⟨hT, -, -, -⟩ := own_els (R := t.map rqV) (rqV_len _) (by simpa using hO) (by simp; omega)
      clear hO hfill e6 hm1 hm2 r9
      replace hT := Lib.hid hT
      go_wp2_with fail
      refine (hM0.out _ hb).mono ?_
      rintro e w3 ⟨⟨p3, d3, rfl, hd3, hL, -⟩, hb3⟩
      have hT3 := Lib.hid (hT.out.below hb3)
      replace hb3 := Lib.hid (hb.trans (hb3.mono hb.size))
      have hcb := hb3
      have hpc := Lib.hid (fun wx (h : Below w3.heap.size w3 wx) => profile_calls p3 q d3 d l t wx (hL.below h) (hT3.out.below h))
      have hpkc := Lib.hid (fun wx (h : Below w3.heap.size w3 wx) => peak_calls p3 q d3 d l t wx (hL.below h) (hT3.out.below h))
      have hfc := Lib.hid (fun wx (h : Below w3.heap.size w3 wx) cp => fits_calls 0 0 cp 0 0 p3 q d3 d l t wx (hL.below h) (hT3.out.below h))
      have hatc := Lib.hid (fun wx (h : Below w3.heap.size w3 wx) req => at_calls p3 d3 l req wx (hL.below h))
      have hwoc := Lib.hid (fun wx (h : Below w3.heap.size w3 wx) req => pwithout_calls p3 d3 l req wx (hL.below h) (by omega))
      have hpwc := Lib.hid (fun wx (h : Below w3.heap.size w3 wx) (q' : Option Addr) (d' : Nat) (req : Int) (hq' : Els wx q' 2 ((woP l req).map stV)) => profile_calls q' q d' d (woP l req) t wx hq' (hT3.out.below h))
      have hLb := Lib.hid (fun wx (h : Below w3.heap.size w3 wx) => hL.below h)
      have hTb := Lib.hid (fun wx (h : Below w3.heap.size w3 wx) => hT3.out.below h)
      clear hb hT hM0 hL hT3
      replace hcb := Lib.hid hcb.out
      go_wp2_with fail
      have h7 := hpc.out w3 (Below.refl _ _)
      rw [hpr.out] at h7
      unfold PrPost at h7
      refine h7.mono ?_
      clear h7
      rintro e w4 ⟨⟨p4, d4, rfl, hd4, hA⟩, hb4⟩
      dsimp only at hd4 hA ⊢
      have hAl : ((List.range l.length).map (fun i => onK l t (i + 1))).length = l.length := by simp
      rw [hAl] at hd4 ⊢
      have h8 := hpkc.out w4 hb4
      rw [hpk.out] at h8
      obtain ⟨M, hM⟩ : ∃ M, mostL ((List.range l.length).map fun i => onK l t (i + 1)) = M := ⟨_, rfl⟩
      rw [hM] at h8
      have hfM := Lib.hid (fun h0 => hfm.out M hM.symm h0)
      have hM0 : Hid (l.length = 0 → M = 0) := Lib.hid (fun h => by rw [← hM, h]; rfl)
      have hMb : M ≤ 16000 ∧ 0 ≤ M := by
        rw [← hM]
        unfold mostL
        refine ⟨?_, (mostL_ge _ 0).1⟩
        rcases mostL_at ((List.range l.length).map fun i => onK l t (i + 1)) 0 with h | h
        · rw [h]; omega
        · obtain ⟨k, hk, e⟩ := List.mem_map.1 h
          rw [← e]
          exact hle.out _ (by have := List.mem_range.1 hk; omega)
      dsimp only at h8
      replace h8 := Lib.hid h8
      have hAb := Lib.hid (fun wx (h : Below w4.heap.size w4 wx) (i : Nat) (hi : i < l.length) (a : Addr) (ha : p4 = some a) => (by
        subst ha
        have := in_at (hA.below h) (k := i) (by simpa using hi)
        simpa using this : (loadVar 3 (a.add i)).run Try.prog wx = .ok (.int .i64 (onK l t (i + 1))) wx))
      have hAs := Lib.hid (fun (i : Nat) (hi : i < l.length) => hA.some_of (k := i) (by simpa using hi))
      replace hb4 := Lib.hid hb4
      clear hM hA hAl hpc hpr hpk hfm hpkc
      go_wp2_with fail
      refine h8.out.mono ?_
      rintro e w5 ⟨rfl, hb5⟩
      have hb35 := Lib.hid (hb4.out.trans (hb5.mono hb4.out.size))
      replace hb5 := Lib.hid hb5
      clear h8
      go_upto_if 57 with fail
      go_cut [11] from 13 to 97 (fun s11 wx => s11 = .int .i64 M ∧ Below w5.heap.size w5 wx)
      case first =>
        by_cases m0 : 0 < M
        · obtain ⟨f0, f1⟩ := hfM.out m0
          have hv1 := Lib.hid (run_ve1 M)
          obtain ⟨X, hX⟩ : ∃ X, X = max 1 (M - 1) := ⟨_, rfl⟩
          have hv2 := Lib.hid (run_ve1 X)
          have s1 : IntKind.i64.wrap (M - 1) = M - 1 := IntWalk.i64_in _ (by omega)
          have c1 := hfc.out w5 hb35.out M
          obtain ⟨F1, hF1⟩ : ∃ F1, (fitP 0 0 M 0 0 l t).1 = F1 := ⟨_, rfl⟩
          rw [f0, hF1] at c1
          replace c1 := Lib.hid c1
          have c2 := Lib.hid (fun wx h => hfc.out wx h X)
          by_cases m1 : 1 < M
          · obtain ⟨f2, k, hk, f3, f4⟩ := f1 m1
            have hXe : X = M - 1 := by omega
            rw [hXe, f2, f3] at c2
            rw [hXe] at hv2
            have hmx : Hid (M - 1 = max 1 (M - 1)) := Lib.hid (by omega)
            obtain ⟨a, ha⟩ := hAs.out k hk
            have hld := Lib.hid (fun wx h => hAb.out wx h k hk a ha)
            rw [f4] at hld
            subst ha
            clear f0 f1 f2 f3 f4 hF1 hX hXe hfM
            have hkI : (k : Int) < (l.length : Int) := by omega
            have hk0 : (0 : Int) ≤ (k : Int) := by omega
            go_wp2_with (first | (refine wpList_build1_v rfl 32 1 _ rfl (.int .i64 M) rfl _ (hv1.out _) ?_))
            refine c1.out.mono ?_
            rintro e w6 ⟨rfl, hb6⟩
            have hb36 := hb35.out.trans (hb6.mono hb35.out.size)
            have c2' := Lib.hid (c2.out w6 hb36)
            have hb46 := hb5.out.trans (hb6.mono hb5.out.size)
            go_wp2_with (first | (refine wpList_build1_v rfl 32 1 _ rfl (.int .i64 (M - 1)) rfl _ (hv2.out _) ?_) | (refine wpList_v rfl (.int .i64 (M - 1)) (run_maxI hmx.out rfl rfl rfl) ?_))
            refine c2'.out.mono ?_
            rintro e w7 ⟨rfl, hb7⟩
            have hl7 := Lib.hid (hld.out w7 (hb46.trans (hb7.mono hb46.size)))
            replace hb7 := Lib.hid (hb6.trans (hb7.mono hb6.size))
            clear c2 c2' hld hb46 hb36 hb6 c1
            go_wp2_with (first | (refine wpList_load_v rfl 3 _ rfl (a.add k) rfl _ hl7.out ?_))
            go_meet
            exact ⟨rfl, hb7.out⟩
          · have hXe : X = 1 := by omega
            rw [hXe] at c2 hv2
            have hmx : Hid (1 = max 1 (M - 1)) := Lib.hid (by omega)
            clear f0 f1 hF1 hX hXe hfM
            go_wp2_with (first | (refine wpList_build1_v rfl 32 1 _ rfl (.int .i64 M) rfl _ (hv1.out _) ?_))
            refine c1.out.mono ?_
            rintro e w6 ⟨rfl, hb6⟩
            have hb36 := hb35.out.trans (hb6.mono hb35.out.size)
            have c2' := c2.out w6 hb36
            generalize (fitP 0 0 1 0 0 l t).1 = g1 at c2'
            generalize (fitP 0 0 1 0 0 l t).2 = g2 at c2'
            replace c2' := Lib.hid c2'
            go_wp2_with (first | (refine wpList_build1_v rfl 32 1 _ rfl (.int .i64 1) rfl _ (hv2.out _) ?_) | (refine wpList_v rfl (.int .i64 1) (run_maxI hmx.out rfl rfl rfl) ?_))
            refine c2'.out.mono ?_
            rintro e w7 ⟨rfl, hb7⟩
            replace hb7 := Lib.hid (hb6.trans (hb7.mono hb6.size))
            clear c2 c2' hb36 hb6 c1
            go_wp2_with fail
            go_meet
            exact ⟨rfl, hb7.out⟩
        · go_wp2_with fail
          go_meet
          exact ⟨rfl, Below.refl _ _⟩
      case rest =>
      obtain ⟨rfl, hbc⟩ := hcut
      have hb3c := Lib.hid (hb35.out.trans (hbc.mono hb35.out.size))
      have hb4c := Lib.hid (hb5.out.trans (hbc.mono hb5.out.size))
      clear hbc hb35 hb5 hfM hfc
      by_cases hl0 : l.length = 0
      · have hMz := hM0.out hl0
        subst hMz
        have hlI : ((l.length : Int) == 0) = true := by rw [hl0]; rfl
        go_wp2_with fail
        go_ret
        exact ⟨rfl, (hcb.out.trans (hb3c.out.mono hcb.out.size))⟩
      · have hlI : ((l.length : Int) == 0) = false := beq_eq_false_iff_ne.2 (by omega)
        have hlI2 : ¬ (l.length : Int) = 0 := by omega
        obtain ⟨x, hx⟩ : ∃ x, (wh % (l.length : Int)).toNat = x := ⟨_, rfl⟩
        have hm1 := Int.emod_nonneg wh hlI2
        have hm2 := Int.emod_lt_of_pos wh (show (0 : Int) < (l.length : Int) by omega)
        have hxx : Hid ((x : Int) = wh % (l.length : Int)) := Lib.hid (by omega)
        have hxl : x < l.length := by omega
        have hxI : (x : Int) < (l.length : Int) := by omega
        have hx0 : (0 : Int) ≤ (x : Int) := by omega
        have s1 : IntKind.i64.wrap wh = wh := IntWalk.i64_in _ (by omega)
        have hL5 := hLb.out wc hb3c.out
        obtain ⟨a, ha⟩ := hL5.some_of (k := x) (by simpa using hxl)
        have hc0 := hL5.cells a ha x (stV l[x]) 0 (.int .i64 l[x].1) (by rw [List.getElem?_map, List.getElem?_eq_getElem hxl]; rfl) rfl
        rw [Nat.add_zero] at hc0
        obtain ⟨A, D, hLP⟩ := hlo.out l[x] (List.getElem_mem hxl)
        obtain ⟨-, n, hn, hnt, hn1, hn2⟩ := hkd.out l[x] (List.getElem_mem hxl)
        rw [hn] at hc0
        have hu : t.getD l[x].1.toNat rqZ0 8 = t[n] 8 := by rw [hn, Int.toNat_natCast, getD_at t hnt]
        rw [hu] at hLP
        generalize l[x].1 = r at *
        subst hn
        have hT5 := Lib.hid (fun wx (h : Below w3.heap.size w3 wx) => (by
          obtain ⟨b, hbq⟩ := (hTb.out wx h).some_of (k := n) (by simpa using hnt)
          refine ⟨b, hbq, ?_⟩
          have := (hTb.out wx h).cells b hbq n (rqV t[n]) 8 (.int .i64 (t[n] 8)) (by rw [List.getElem?_map, List.getElem?_eq_getElem hnt]; rfl) rfl
          rw [← addr_add_add] at this
          exact run_i64 this : ∃ b, q = some b ∧ (loadVar 3 ((b.add (n * 10)).add 8)).run Try.prog wx = .ok (.int .i64 (t[n] 8)) wx))
        generalize t[n] 8 = u at *
        have hl5 := Lib.hid (run_i64 hc0)
        have hA1 := hatc.out wc hb3c.out (n : Int)
        rw [hLP.at0, hLP.at1] at hA1
        replace hA1 := Lib.hid hA1
        have hWc := fun wx (h : Below w3.heap.size w3 wx) => hwoc.out wx h (n : Int)
        unfold WoPost at hWc
        replace hWc := Lib.hid hWc
        have hpw := Lib.hid (fun wx (h : Below w3.heap.size w3 wx) (q' : Option Addr) (d' : Nat) (hq' : Els wx q' 2 ((woP l (n : Int)).map stV)) => (by
          have := hpwc.out wx h q' d' (n : Int) hq'
          rw [htw.out] at this
          exact this : Calls Try.prog 8 #[.slice q' (woP l (n : Int)).length d', .slice q t.length d] wx (PrPost wx ((List.range (woP l (n : Int)).length).map (fun i => onK (woP l (n : Int)) t (i + 1)), 0))))
        have hWl := hLP.wo
        obtain ⟨hAD, hDl, -, -, -, hlaw⟩ := hLP
        have hknI : (n : Int) < (t.length : Int) := by omega
        have hn0 : (0 : Int) ≤ (n : Int) := by omega
        replace hlaw := Lib.hid hlaw
        generalize woP l (n : Int) = Wo at *
        replace hWl := Lib.hid hWl
        clear hc0 hL5 hu hx hlo hkd hatc hwoc hpwc htw hm1 hm2 hM0 hLb hTb
        subst ha
        go_upto_region 19 with (first | (refine wpList_v rfl (.int .i64 (x : Int)) (run_rem64 rfl rfl rfl (by omega) (by omega) hxx.out (by omega)) ?_) | (refine wpList_load_v rfl 3 _ rfl (a.add (x * 2)) rfl _ hl5.out ?_))
        go_wp2_with fail
        refine hA1.out.mono ?_
        rintro e w6 ⟨rfl, hb6⟩
        have hb36 := hb3c.out.trans (hb6.mono hb3c.out.size)
        have hb46 := Lib.hid (hb4c.out.trans (hb6.mono hb4c.out.size))
        have hW6 := Lib.hid (hWc.out w6 hb36)
        replace hb36 := Lib.hid hb36
        clear hb6 hb3c hb4c hA1 hWc hl5 hxx
        go_wp2_with fail
        refine hW6.out.mono ?_
        rintro e w7 ⟨hb7, q7, d7, rfl, hd7, hE7⟩
        have hb37 := hb36.out.trans (hb7.mono hb36.out.size)
        have hb47 := Lib.hid (hb46.out.trans (hb7.mono hb46.out.size))
        have hp7 := hpw.out w7 hb37 q7 d7 hE7
        unfold PrPost at hp7
        replace hp7 := Lib.hid hp7
        replace hb37 := Lib.hid hb37
        clear hb7 hb36 hb46 hW6 hpw hE7
        go_wp2_with fail
        refine hp7.out.mono ?_
        rintro e w8 ⟨⟨q8, d8, rfl, hd8, hC⟩, hb8⟩
        dsimp only at hd8 hC ⊢
        have hCl : ((List.range Wo.length).map (fun i => onK Wo t (i + 1))).length = Wo.length := by simp
        rw [hCl] at hd8 ⊢
        have hb38 := hb37.out.trans (hb8.mono hb37.out.size)
        have hb48 := hb47.out.trans (hb8.mono hb47.out.size)
        have hTu := Lib.hid (fun wx (h : Below w8.heap.size w8 wx) => hT5.out wx (hb38.trans (h.mono hb38.size)))
        have hAl := Lib.hid (fun wx (h : Below w8.heap.size w8 wx) => hAb.out wx (hb48.trans (h.mono hb48.size)))
        have hCb := Lib.hid (fun wx (h : Below w8.heap.size w8 wx) (i : Nat) (hi : i < Wo.length) => (by
          obtain ⟨b, hbq⟩ := (hC.below h).some_of (k := i) (by simpa using hi)
          refine ⟨b, hbq, ?_⟩
          subst hbq
          have := in_at (hC.below h) (k := i) (by simpa using hi)
          simpa using this : ∃ b, q8 = some b ∧ (loadVar 3 (b.add i)).run Try.prog wx = .ok (.int .i64 (onK Wo t (i + 1))) wx))
        have hfin := Lib.hid (hcb.out.trans (hb38.mono hcb.out.size))
        have hk0 := Lib.hid (kI_0 A D)
        clear hC hCl hp7 hb37 hb47 hb38 hb48 hb8 hAb hT5 hcb
        go_wp2_with fail
        go_loopw [22, 23] (fun s22 s23 wx => ∃ i : Nat, i ≤ l.length ∧ s23 = .int .i64 i ∧ s22 = .int .i64 (kI A D i : Nat) ∧ Below w8.heap.size w8 wx) (fun _ s23 _ => l.length - (intOf s23).toNat)
        case atStart => exact ⟨0, Nat.zero_le _, rfl, by rw [hk0.out]; rfl, Below.refl _ _⟩
        case round =>
          obtain ⟨i, hi, rfl, rfl, hb⟩ := hrel
          by_cases hil : i < l.length
          · have hiI : (i : Int) < (l.length : Int) := by omega
            have hi0 : (0 : Int) ≤ (i : Int) := by omega
            have s2 : IntKind.i64.wrap ((i : Int) + 1) = (i : Int) + 1 := IntWalk.i64_in _ (by omega)
            by_cases hiA : i = A
            · have e1 : ((i : Int) == (A : Int)) = true := by simp [hiA]
              have e2 : Hid (kI A D (i + 1) = kI A D i) := Lib.hid (by rw [hiA]; exact kI_A hAD)
              replace hiA := Lib.hid hiA
              go_wp2_with fail
              go_roundw
              case rel => exact ⟨i + 1, by omega, by simp, by rw [e2.out], hb⟩
              case measure => simp [intOf]; omega
            · have e1 : ((i : Int) == (A : Int)) = false := beq_eq_false_iff_ne.2 (by omega)
              by_cases hiD : i = D
              · have e3 : ((i : Int) == (D : Int)) = true := by simp [hiD]
                have e2 : Hid (kI A D (i + 1) = kI A D i) := Lib.hid (by rw [hiD]; exact kI_D hAD)
                replace hiD := Lib.hid hiD
                go_wp2_with fail
                go_roundw
                case rel => exact ⟨i + 1, by omega, by simp, by rw [e2.out], hb⟩
                case measure => simp [intOf]; omega
              · have e3 : ((i : Int) == (D : Int)) = false := beq_eq_false_iff_ne.2 (by omega)
                have hklt := kI_lt hAD hil hDl hiA hiD
                have hkS := Lib.hid (kI_S hAD hiA hiD)
                have hlw := hlaw.out i hil hiA hiD
                obtain ⟨aA, haA⟩ := hAs.out i hil
                have hla := Lib.hid (hAl.out wr hb i hil aA haA)
                have hWl' := hWl.out
                obtain ⟨c8, hc8, hlc⟩ := hCb.out wr hb (kI A D i) (by omega)
                obtain ⟨bT, hbT, hlt⟩ := hTu.out wr hb
                rw [hlw] at hlc
                replace hlc := Lib.hid hlc
                replace hlt := Lib.hid hlt
                have hub := hle.out (i + 1) (by omega)
                have hnb := hnn.out (i + 1) (by omega)
                generalize onK l t (i + 1) = S at *
                have hkl : kI A D i < Wo.length := by omega
                generalize kI A D i = k at *
                have hkI : (k : Int) < (Wo.length : Int) := by omega
                have hkg : ¬ ((Wo.length : Int) ≤ (k : Int)) := by omega
                have hk00 : (0 : Int) ≤ (k : Int) := by omega
                have s3 : IntKind.i64.wrap ((k : Int) + 1) = (k : Int) + 1 := IntWalk.i64_in _ (by omega)
                have s4 : IntKind.i64.wrap (S - u) = S - u := IntWalk.i64_in _ (by omega)
                replace hb := Lib.hid hb
                subst haA hc8 hbT
                clear hlw hWl'
                have hclose : True := trivial
                by_cases hmA : A < i
                · have hmAI : (A : Int) < (i : Int) := by omega
                  by_cases hmD : i < D
                  · have hmDI : (i : Int) < (D : Int) := by omega
                    rw [if_pos ⟨hmA, hmD⟩] at hlc
                    go_wp2_with (first | (refine wpList_load_v rfl 3 _ rfl (aA.add i) rfl _ hla.out ?_) | (refine wpList_load_v rfl 3 _ rfl (c8.add k) rfl _ hlc.out ?_) | (refine wpList_load_v rfl 3 _ rfl ((bT.add (n * 10)).add 8) rfl _ hlt.out ?_))
                    go_roundw
                    case rel => exact ⟨i + 1, by omega, by simp, by rw [hkS.out]; simp, hb.out⟩
                    case measure => simp [intOf]; omega
                  · have hmDI : ¬ ((i : Int) < (D : Int)) := by omega
                    rw [if_neg (by omega), Int.sub_zero] at hlc
                    go_wp2_with (first | (refine wpList_load_v rfl 3 _ rfl (aA.add i) rfl _ hla.out ?_) | (refine wpList_load_v rfl 3 _ rfl (c8.add k) rfl _ hlc.out ?_))
                    go_roundw
                    case rel => exact ⟨i + 1, by omega, by simp, by rw [hkS.out]; simp, hb.out⟩
                    case measure => simp [intOf]; omega
                · have hmAI : ¬ ((A : Int) < (i : Int)) := by omega
                  rw [if_neg (by omega), Int.sub_zero] at hlc
                  go_wp2_with (first | (refine wpList_load_v rfl 3 _ rfl (aA.add i) rfl _ hla.out ?_) | (refine wpList_load_v rfl 3 _ rfl (c8.add k) rfl _ hlc.out ?_))
                  go_roundw
                  case rel => exact ⟨i + 1, by omega, by simp, by rw [hkS.out]; simp, hb.out⟩
                  case measure => simp [intOf]; omega
          · obtain rfl : i = l.length := by omega
            have hke : kI A D l.length = Wo.length := by rw [kI_end hDl]; have := hWl.out; omega
            rw [hke]
            clear hke
            replace hb := Lib.hid hb
            go_wp2_with fail
            go_ret
            exact ⟨rfl, hfin.out.trans (hb.out.mono hfin.out.size)⟩
end Go.Proofs.Ytaijimckbpplnaa
