/-
  'InsertSums': it returns true.
-/
import Derived.Test.YtcdpiemkbefcoaaRg
import Derived.Test.YtcdpiemkbefcoaaWt
import Derived.Test.YtcdpiemkbefcoaaAr8
namespace Go.Proofs.Ytcdpiemkbefcoaa
open Go.RowKit

/-- where a request of a route is, and the route without it, and with it again -/
theorem with_of {l : List (Int × Int)} (hR : Rou l) {s : Int × Int} (hs : s ∈ l) : ∃ i j : Nat, i ≤ j ∧ j ≤ (woP l s.1).length ∧ fstI (fun u => decide (u = (s.1, 0))) l = (i : Int) ∧ fstI (fun u => decide (u = (s.1, 1))) l = ((j + 1 : Nat) : Int) ∧
    withL (woP l s.1) s.1 i j = l ∧ (woP l s.1).length + 2 = l.length := by
  obtain ⟨_, _, hsub⟩ := rou_mem hR hs
  generalize s.1 = r at *
  unfold sub pd at hsub
  obtain ⟨a, l2, e1, ha, _, h2⟩ := List.filter_eq_cons_iff.1 hsub
  obtain ⟨b, c, e2, hb, _, hc⟩ := List.filter_eq_cons_iff.1 h2
  have hc' : ∀ x ∈ c, x.1 ≠ r := fun x hx => by
    have := (List.filter_eq_nil_iff.1 hc) x hx
    simpa using this
  have ha' : ∀ x ∈ a, x.1 ≠ r := fun x hx => by simpa using ha x hx
  have hb' : ∀ x ∈ b, x.1 ≠ r := fun x hx => by simpa using hb x hx
  subst e2
  subst e1
  have hw : woP (a ++ (r, 0) :: (b ++ (r, 1) :: c)) r = a ++ (b ++ c) := by
    have e1 : ∀ q, woP ((r, 0) :: q) r = woP q r := fun q => by unfold woP; simp
    have e2 : ∀ q, woP ((r, 1) :: q) r = woP q r := fun q => by unfold woP; simp
    rw [woP_append, e1, woP_append, e2, woP_none ha', woP_none hb', woP_none hc']
  rw [hw]
  refine ⟨a.length, a.length + b.length, by omega, by simp, ?_, ?_, ?_, by simp; omega⟩
  · refine fstI_hit (k := a.length) (by simp) (by simp) fun j x hj hx => ?_
    rw [List.getElem?_append_left hj] at hx
    have := ha' x (List.mem_of_getElem? hx)
    refine decide_eq_false fun e => this ?_
    rw [e]
  · refine fstI_hit (k := a.length + b.length + 1) (by simp; omega) ?_ fun j x hj hx => ?_
    · simp only [List.getElem_append, List.getElem_cons]
      rw [dif_neg (by omega), dif_neg (by omega), dif_neg (by omega), dif_pos (by omega)]
      simp
    · refine decide_eq_false fun e => ?_
      subst e
      have hm : (r, (1 : Int)) ∈ a ++ (r, 0) :: b := by
        have : (a ++ (r, 0) :: (b ++ (r, 1) :: c))[j]? = (a ++ (r, 0) :: b)[j]? := by
          rw [show a ++ (r, (0 : Int)) :: (b ++ (r, 1) :: c) = (a ++ (r, 0) :: b) ++ (r, 1) :: c by simp]
          rw [List.getElem?_append_left (by simp; omega)]
        rw [this] at hx
        exact List.mem_of_getElem? hx
      rcases List.mem_append.1 hm with h | h
      · exact ha' _ h rfl
      · rcases List.mem_cons.1 h with h | h
        · simp at h
        · exact hb' _ h rfl
  · unfold withL
    simp
theorem tm_nil {x y cp st en : Int} {t : List Rq} (h : RightP x y cp st en [] t) : (tmP x y cp st en [] t).2.1 = st := by
  have h0 := (tm_right h).1
  obtain ⟨hv, _, _, _, _, _, b, ax, ay, nw, r1, r2⟩ := h
  cases r1
  have hd : dsP x y x y = 0 := by
    unfold dsP ap1
    simp
  unfold tmP at h0 ⊢
  by_cases hwr : wrP x y cp st en [] t = 0
  · rw [if_neg (by omega)]
    show (if en < st + dsP x y x y then (([] : Tms), (0 : Int), (9 : Int)) else ([], st + dsP x y x y, 0)).2.1 = st
    rw [if_neg (by omega), hd]
    show st + 0 = st
    omega
  · rw [if_pos hwr] at h0; exact absurd h0 hwr
/-- one request is taken out -/
theorem sums_step {x y cp st en : Int} {l : List (Int × Int)} {t : List Rq} (h : RightP x y cp st en l t) {s : Int × Int} (hs : s ∈ l) : ∃ i j : Nat, fstI (fun u => decide (u = (s.1, 0))) l = (i : Int) ∧ fstI (fun u => decide (u = (s.1, 1))) l = ((j + 1 : Nat) : Int) ∧
    j ≤ l.length ∧ (woP l s.1).length + 2 = l.length ∧ RightP x y cp st en (woP l s.1) t ∧ riseP x y cp st en (woP l s.1) t s.1 i j = ((tmP x y cp st en l t).2.1 - (tmP x y cp st en (woP l s.1) t).2.1, 0) := by
  obtain ⟨i, j, hij, hj, e1, e2, e3, e4⟩ := with_of h.2.2.2.1 hs
  have hm := rou_mem h.2.2.2.1 hs
  have hl := h.2.2.1
  have := rise_right (x := x) (y := y) (cp := cp) (st := st) (en := en) (t := t) (l := woP l s.1) (req := s.1) hij hj ⟨hm.1, h.2.2.2.2.1 s hs⟩ (fun u hu => (woP_mem.1 hu).2) (by omega) (by rw [e3]; exact h)
  rw [e3] at this
  exact ⟨i, j, e1, e2, by omega, e4, this.1, this.2.1⟩

set_option maxHeartbeats 4000000 in
set_option maxRecDepth 100000 in
theorem InsertSums_walk (p : Option Addr) (c : Nat) (B : List Int) (n wd k : Int) (N : Nat → Int) (w : World) (hA : DrA w p B n wd) (hN : ∀ i, i < 6 → 0 ≤ N i ∧ N i < 256) :
    Calls Try.prog 9 #[.agg (drC p c B n wd k), .agg (arr8 N 6).toArray] w fun e w' => e = .returned (.bool true) ∧ Below w.heap.size w w' := by
  have hpc := Lib.hid (fun wx (h : DrA wx p B n wd) => dparts_calls p c B n wd k wx h)
  have hT6 : (dpT B n wd).length ≤ 6 := by rw [dpT_len]; exact dpN_le n
  have hL12 : (dpL B n).length ≤ 12 := by rw [dpL_len]; have := dpN_le n; omega
  have hwk := Lib.hid works_calls
  unfold DpPost at hpc
  generalize dpL B n = L at *
  generalize dpT B n wd = T at *
  generalize dpV B n = V' at *
  obtain ⟨C, hC⟩ : ∃ C, drC p c B n wd k = C := ⟨_, rfl⟩
  have hCs : C.size = 4 := by rw [← hC]; rfl
  rw [hC] at hpc ⊢
  obtain ⟨V, hV⟩ : ∃ V, (veR V').toArray = V := ⟨_, rfl⟩
  have hVs : V.size = 5 := by rw [← hV]; rfl
  have hV1 : ∀ v ∈ V.toList, v.oneCell' = true := by rw [← hV]; simp [veR, Value.oneCell']
  have hV3 : V[3]? = some (.int .i64 (V' 3)) := by rw [← hV]; rfl
  have hV5 : V = #[.int .i64 (V' 0), .int .i64 (V' 1), .int .i64 (V' 2), .int .i64 (V' 3), .int .i64 (V' 4)] := by rw [← hV]; rfl
  rw [hV] at hpc
  replace hV5 := Lib.hid hV5
  clear hV
  obtain ⟨O, hO⟩ : ∃ O, (arr8 N 6).toArray = O := ⟨_, rfl⟩
  have hOs : O.size = 6 := by rw [← hO]; simp [arr8]
  have hOc : ∀ i, i < 6 → O[i]? = some (.int .u8 (N i)) := fun i hi => by rw [← hO]; simp [arr8, hi]
  rw [hO]
  replace hOc := Lib.hid hOc
  replace hN := Lib.hid hN
  clear hO
  have hB0 := (Blk.new w C 24).alloc (.cells O 71)
  have hB1 := Blk.new' w (.cells C 24) O 71
  have hb1 := (new_below w (.cells C 24)).alloc (by simp) (.cells O 71)
  have hA1 := hA.below hb1
  replace hB0 := Lib.hid hB0
  replace hB1 := Lib.hid hB1
  replace hb1 := Lib.hid hb1
  replace hA1 := Lib.hid hA1
  clear hA hC
  go_enter Try.func9, Try.ntmps9
  go_upto_region 1 with fail
  refine wp_world' (fun wx => Blk wx w.heap.size C 24 ∧ Blk wx (w.heap.size + 1) O 71 ∧ DrA wx p B n wd ∧ Below w.heap.size w wx) ⟨hB0.out, hB1.out, hA1.out, hb1.out⟩ ?_
  clear hB0 hB1 hA1 hb1
  rintro w0 ⟨hD, hAt, hA, hb⟩
  go_wp2_with fail
  refine (hwk.out _).mono ?_
  rintro e w1 ⟨rfl, hb1⟩
  have m1 := (Mod.refl (fun _ => False) w0).after hb1
  replace hD := hD.mod m1 (fun h => h)
  replace hAt := Lib.hid (hAt.mod m1 (fun h => h))
  replace hA := hA.below hb1
  replace hb := hb.trans (hb1.mono hb.size)
  clear hb1 hwk m1
  have hld := Lib.hid (run_load_row' (P := Try.prog) w1 _ 24 C 24 _ hD Try.underlying24 rfl (by rw [hCs]; kernel_rfl))
  replace hb := Lib.hid hb
  clear hD
  go_wp2_with (refine wpList_load_v rfl 24 _ rfl ⟨w.heap.size, 0, none⟩ rfl _ hld.out ?_)
  refine (hpc.out _ hA).mono ?_
  rintro e w2 ⟨⟨qL, dL, qT, dT, rfl, hdL, hdT, hEL, hET, _, _⟩, hb2⟩
  have hAt2 := hAt.out.mod ((Mod.refl (fun _ => False) _).after hb2) (fun h => h)
  replace hb2 := hb.out.trans (hb2.mono hb.out.size)
  clear hpc hA hb hld hAt
  have mA := (Mod.refl (fun _ => False) w2).alloc (.cells V 28)
  have P3 := Lib.hid (show Blk (w2.alloc (.cells V 28)) w2.heap.size V 28 ∧ Blk (w2.alloc (.cells V 28)) (w.heap.size + 1) O 71 ∧ Els (w2.alloc (.cells V 28)) qL 2 (L.map stV) ∧ Els (w2.alloc (.cells V 28)) qT 10 (T.map rqV) ∧ Below w.heap.size w (w2.alloc (.cells V 28)) from
    ⟨Blk.new _ _ _, hAt2.mod mA (fun h => h), hEL.below (new_below _ _), hET.below (new_below _ _), hb2.alloc hb2.size _⟩)
  clear mA hb2 hAt2 hEL hET
  go_upto_region 4 with (refine wpList_store_new rfl 28 _ _ rfl rfl rfl _ V _ rfl (by rw [hVs]; rfl) hV1 (by rw [hVs]; kernel_rfl) ?_)
  refine wp_world' (fun wx => Blk wx w2.heap.size V 28 ∧ Blk wx (w.heap.size + 1) O 71 ∧ Els wx qL 2 (L.map stV) ∧ Els wx qT 10 (T.map rqV) ∧ Below w.heap.size w wx) P3.out ?_
  clear P3
  rintro w4 ⟨hY4, hAt4, hEL, hET, hb4⟩
  have hlY := Lib.hid (fun (wx : World) (h : Below w4.heap.size w4 wx) => run_load_row' (P := Try.prog) wx w2.heap.size 28 V 28 _ (hY4.mod ((Mod.refl (fun _ => False) _).after h) (fun h => h)) Try.underlying28 rfl (by rw [hVs]; kernel_rfl))
  have hY3 := Lib.hid (fun (wx : World) (h : Below w4.heap.size w4 wx) => (hY4.mod ((Mod.refl (fun _ => False) _).after h) (fun h => h)).cell hV3)
  have hOb := Lib.hid (fun (wx : World) (h : Below w4.heap.size w4 wx) (i : Nat) (hi : i < 6) => (hAt4.mod ((Mod.refl (fun _ => False) _).after h) (fun h => h)).cell (hOc.out i hi))
  have hELb := Lib.hid (fun (wx : World) (h : Below w4.heap.size w4 wx) => hEL.below h)
  have hETb := Lib.hid (fun (wx : World) (h : Below w4.heap.size w4 wx) => hET.below h)
  have hbb := Lib.hid (fun (wx : World) (h : Below w4.heap.size w4 wx) => hb4.trans (h.mono hb4.size))
  have htl := Lib.hid (fun (wx : World) (h : Below w4.heap.size w4 wx) => (by
    have := times_calls (V' 0) (V' 1) (V' 2) (V' 3) (V' 4) qL qT dL dT L T wx (hELb.out wx h) (hETb.out wx h)
    rw [← hV5.out] at this
    exact this : Calls Try.prog 23 #[.agg V, .slice qL L.length dL, .slice qT T.length dT] wx (TmPost wx (tmP (V' 0) (V' 1) (V' 2) (V' 3) (V' 4) L T))))
  have hfc := Lib.hid (fun (wx : World) (h : Below w4.heap.size w4 wx) => (by
    have := fcheck_calls (V' 0) (V' 1) (V' 2) (V' 3) (V' 4) qL qT dL dT L T wx (hELb.out wx h) (hETb.out wx h)
    rw [← hV5.out] at this
    exact this : Calls Try.prog 22 #[.agg V, .slice qL L.length dL, .slice qT T.length dT] wx (FsPost wx (fsB (V' 0) (V' 1) (V' 2) (V' 3) (V' 4) L T))))
  have hri := Lib.hid (fun (l : List (Int × Int)) (q : Option Addr) (d : Nat) (rq i j : Int) (wx : World) (hq : Els wx q 2 (l.map stV)) (hd : l.length ≤ d) (h : Below w4.heap.size w4 wx) => (by
    have := rise_calls (V' 0) (V' 1) (V' 2) (V' 3) (V' 4) rq i j q qT d dT l T wx hq hd (hETb.out wx h)
    rw [← hV5.out] at this
    exact this : Calls Try.prog 15 #[.agg V, .slice q l.length d, .slice qT T.length dT, .int .i64 rq, .int .i64 i, .int .i64 j] wx fun e w' => e = .returned (.tuple #[.int .i64 (riseP (V' 0) (V' 1) (V' 2) (V' 3) (V' 4) l T rq i j).1, .int .i64 (riseP (V' 0) (V' 1) (V' 2) (V' 3) (V' 4) l T rq i j).2]) ∧ Below wx.heap.size wx w'))
  obtain ⟨⟨tA, E0, zL⟩, hTL⟩ : ∃ x, tmP (V' 0) (V' 1) (V' 2) (V' 3) (V' 4) L T = x := ⟨_, rfl⟩
  rw [hTL] at htl
  have hl4 := Lib.hid (hlY.out w4 (Below.refl _ _))
  clear hY4 hAt4 hEL hET hb4 hV1 hV3 hOs
  by_cases hz : zL = 0
  · subst hz
    by_cases hR : RightP (V' 0) (V' 1) (V' 2) (V' 3) (V' 4) L T
    · rw [(fsB_iff _ _ _ _ _ _ _).2 hR] at hfc
      have hE0 : (tmP (V' 0) (V' 1) (V' 2) (V' 3) (V' 4) L T).2.1 = E0 := by rw [hTL]
      have hstart := Lib.hid (show RightP (V' 0) (V' 1) (V' 2) (V' 3) (V' 4) L T ∧ (0 : Int) = E0 - (tmP (V' 0) (V' 1) (V' 2) (V' 3) (V' 4) L T).2.1 ∧ L.length + 2 * 0 = L.length from ⟨hR, by omega, by omega⟩)
      have hE0b := (tm_right hR)
      rw [hE0] at hE0b
      obtain ⟨_, hb1, hb2, hb3, hb5', _⟩ := hE0b
      clear hR hTL hE0
      go_wp2_with (refine wpList_load_v rfl 28 _ rfl ⟨w2.heap.size, 0, none⟩ rfl _ hl4.out ?_)
      refine (htl.out _ (Below.refl _ _)).mono ?_
      rintro e w5 ⟨pa, ca, rfl, hb5, _, _, _, _⟩
      dsimp only
      have hl5 := Lib.hid (hlY.out w5 hb5)
      have hf5 := Lib.hid (hfc.out w5 hb5)
      replace hb5 := Lib.hid hb5
      clear htl hl4 hfc
      go_wp2_with (refine wpList_load_v rfl 28 _ rfl ⟨w2.heap.size, 0, none⟩ rfl _ hl5.out ?_)
      refine hf5.out.mono ?_
      rintro e w6 ⟨h1, _, hb6⟩
      obtain rfl := h1 rfl
      have hb46 := hb5.out.trans (hb6.mono hb5.out.size)
      clear hf5 hl5 hb5 hb6 h1
      have ho1 := Lib.hid (World.ownsRow_made (base := w6.heap.size) (e := 55) (size := 2) w6 #[] 0 (Nat.le_refl _) (by unfold maxLen; omega) rfl)
      have hlow1 := Lib.hid (new_below w6 (.cells #[] 55))
      have hEA := Lib.hid ((hELb.out w6 hb46).below hlow1.out)
      have hz1 := Lib.hid hlow1.out.size
      have hTl := Lib.hid (show L.length = (L.map stV).length by rw [List.length_map])
      have hall := Lib.hid (stV_all L)
      replace hb46 := Lib.hid hb46
      go_upto_region 9 with (first | (refine wpList_bs0 rfl 29 0 rfl _ _ (rsl_stZ _) ?_) |
        (refine wpList_appE st_el rfl _ _ rfl w6.heap.size hz1.out _ 0 [] rfl ho1.out (by omega) qL L.length dL _ rfl hEA.out hTl.out (by omega) hall.out ?_; intro v7 w7 hO7 hg7))
      have hlow7 := grown_low hlow1.out (Nat.le_refl _) (Nat.le_refl _) ho1.out hg7
      rw [Nat.zero_add, List.nil_append] at hO7
      obtain ⟨qO, nO, dO, rfl⟩ := own_isS hO7
      obtain ⟨hEO, hnO, hdO, _⟩ := own_els (R := L.map stV) (stV_len _) (by rw [List.length_map]; exact hO7) (by rw [List.length_map]; omega)
      rw [List.length_map] at hnO
      subst hnO
      have hb47 := hb46.out.trans (hlow7.mono hb46.out.size)
      clear ho1 hlow1 hEA hz1 hg7 hO7 hall hTl hlow7 hELb hb46
      go_wp2_with fail
      go_loopw [11, 12, 13] (fun s11 s12 s13 wx => ∃ (k : Nat) (S : Int) (R : List (Int × Int)) (q : Option Addr) (d : Nat), k ≤ 6 ∧ s11 = .int .i64 S ∧ s12 = .slice q R.length d ∧ s13 = .int .i64 k ∧
        Hid (RightP (V' 0) (V' 1) (V' 2) (V' 3) (V' 4) R T ∧ S = E0 - (tmP (V' 0) (V' 1) (V' 2) (V' 3) (V' 4) R T).2.1 ∧ R.length + 2 * k = L.length) ∧ R.length ≤ d ∧ Els wx q 2 (R.map stV) ∧ Below w4.heap.size w4 wx) (fun _ _ s13 _ => 6 - (intOf s13).toNat)
      case atStart => exact ⟨0, 0, L, qO, dO, by omega, rfl, rfl, rfl, hstart, hdO, hEO, hb47⟩
      case round =>
        clear hstart hEO hb47 hdO
        obtain ⟨k, S, R, q, d, hk6, rfl, rfl, rfl, hI, hd, hE, hb⟩ := hrel
        obtain ⟨hRr, hS, hlen⟩ := hI.out
        have hm0 := tm_right hRr
        have hR12 : R.length ≤ 12 := by omega
        by_cases hgo : k < 6 ∧ 0 < R.length
        · obtain ⟨hk, hR0⟩ := hgo
          have hkI : (k : Int) < 6 := by omega
          have hkI0 : (0 : Int) ≤ (k : Int) := by omega
          have hR0I : (0 : Int) < (R.length : Int) := by omega
          have hNk := hN.out k hk
          have hoc := hOb.out wr hb k hk
          generalize N k = nk at hNk hoc
          obtain ⟨m, hm⟩ : ∃ m : Nat, (m : Int) = nk % (R.length : Int) := ⟨(nk % (R.length : Int)).toNat, Int.toNat_of_nonneg (Int.emod_nonneg _ (by omega))⟩
          have hmr : m < R.length := by have := Int.emod_lt_of_pos nk (show (0 : Int) < (R.length : Int) by omega); omega
          obtain ⟨i, j, e1, e2, hjR, e4, hRl, hrise⟩ := sums_step hRr (List.getElem_mem hmr)
          obtain ⟨a, ha⟩ := hE.some_of (k := m) (by simpa using hmr)
          subst ha
          have hcr : Hid ((loadVar 3 (a.add (m * 2))).run Try.prog wr = .ok (.int .i64 R[m].1) wr) := Lib.hid (run_i64 (by
            have := hE.cells a rfl m (stV R[m]) 0 (.int .i64 R[m].1) (by rw [List.getElem?_map, List.getElem?_eq_getElem hmr]; rfl) rfl
            simpa using this))
          have hat := Lib.hid (by
            have := at_calls (some a) d R R[m].1 wr hE
            rw [e1, e2] at this
            exact this : Calls Try.prog 26 #[.slice (some a) R.length d, .int .i64 R[m].1] wr fun e w' => e = .returned (.tuple #[.int .i64 (i : Int), .int .i64 ((j + 1 : Nat) : Int)]) ∧ Below wr.heap.size wr w')
          have hwo := Lib.hid (fun wx (h : Below wr.heap.size wr wx) => pwithout_calls (some a) d R R[m].1 wx (hE.below h) (by omega))
          have hrs := Lib.hid (fun (q : Option Addr) (d : Nat) (wx : World) (hq : Els wx q 2 ((woP R R[m].1).map stV)) (hd : (woP R R[m].1).length ≤ d) (h : Below w4.heap.size w4 wx) => (by
            have := hri.out (woP R R[m].1) q d R[m].1 i j wx hq hd h
            rw [hrise] at this
            exact this : Calls Try.prog 15 #[.agg V, .slice q (woP R R[m].1).length d, .slice qT T.length dT, .int .i64 R[m].1, .int .i64 (i : Int), .int .i64 (j : Int)] wx fun e w' => e = .returned (.tuple #[.int .i64 ((tmP (V' 0) (V' 1) (V' 2) (V' 3) (V' 4) R T).2.1 - (tmP (V' 0) (V' 1) (V' 2) (V' 3) (V' 4) (woP R R[m].1) T).2.1), .int .i64 0]) ∧ Below wx.heap.size wx w'))
          have hm1 := tm_right hRl
          have hnext := Lib.hid (show RightP (V' 0) (V' 1) (V' 2) (V' 3) (V' 4) (woP R R[m].1) T ∧ S + ((tmP (V' 0) (V' 1) (V' 2) (V' 3) (V' 4) R T).2.1 - (tmP (V' 0) (V' 1) (V' 2) (V' 3) (V' 4) (woP R R[m].1) T).2.1) = E0 - (tmP (V' 0) (V' 1) (V' 2) (V' 3) (V' 4) (woP R R[m].1) T).2.1 ∧ (woP R R[m].1).length + 2 * (k + 1) = L.length from ⟨hRl, by omega, by omega⟩)
          unfold WoPost at hwo
          obtain ⟨_, x1, x2, x3, x4, _⟩ := hm0
          obtain ⟨_, y1, y2, _, _, _⟩ := hm1
          clear hrise e1 e2 hRl hRr hI hlen
          generalize hE2 : (tmP (V' 0) (V' 1) (V' 2) (V' 3) (V' 4) (woP R R[m].1) T).2.1 = E2 at *
          generalize (tmP (V' 0) (V' 1) (V' 2) (V' 3) (V' 4) R T).2.1 = E1 at *
          generalize woP R R[m].1 = Q at *
          generalize R[m].1 = rq at *
          replace hE2 := Lib.hid hE2
          obtain ⟨D, hD⟩ : ∃ D, E1 - E2 = D := ⟨_, rfl⟩
          have hDb : -1048576 ≤ D ∧ D ≤ 1048576 := by omega
          have hSb : -1048576 ≤ S ∧ S ≤ 1048576 := by omega
          rw [hD] at hrs hnext
          clear hS hD x1 x2 x3 x4 y1 y2
          have sA : IntKind.i64.wrap nk = nk := IntWalk.i64_in _ (by omega)
          have sK : IntKind.i64.wrap ((k : Int) + 1) = (k : Int) + 1 := IntWalk.i64_in _ (by omega)
          have hll : (R.length : Int) - 2 = (Q.length : Int) := by omega
          replace hll := Lib.hid hll
          replace e4 := Lib.hid e4
          replace hm := Lib.hid hm
          replace hE := Lib.hid hE
          have hmI : (m : Int) < (R.length : Int) := by omega
          have hmI0 : (0 : Int) ≤ (m : Int) := by omega
          replace hb := Lib.hid hb
          go_wp2_with (first | (refine wpList_v rfl (.int .i64 m) (run_rem64 rfl rfl rfl (by omega) (by omega) hm.out (by omega)) ?_) | (refine wpList_load_v rfl 3 _ rfl (a.add (m * 2)) rfl _ hcr.out ?_))
          refine hat.out.mono ?_
          rintro e w8 ⟨rfl, hb8⟩
          have hw8 := Lib.hid (hwo.out w8 hb8)
          have hb48 := Lib.hid (hb.out.trans (hb8.mono hb.out.size))
          clear hat hwo hb8 hb hcr hoc
          go_wp2_with fail
          refine hw8.out.mono ?_
          rintro e w9 ⟨hb9, q9, d9, rfl, hd9, hE9⟩
          have hb49 := hb48.out.trans (hb9.mono hb48.out.size)
          have hl9 := Lib.hid (hlY.out w9 hb49)
          have hr9 := Lib.hid (hrs.out q9 d9 w9 hE9 hd9.1 hb49)
          replace hb49 := Lib.hid hb49
          replace hE9 := Lib.hid hE9
          clear hw8 hb48 hb9 hrs
          go_wp2_with (first | (refine wpList_load_v rfl 28 _ rfl ⟨w2.heap.size, 0, none⟩ rfl _ hl9.out ?_))
          refine hr9.out.mono ?_
          rintro e wa ⟨rfl, hba⟩
          have hb4a := hb49.out.trans (hba.mono hb49.out.size)
          have hEa := hE9.out.below hba
          clear hr9 hl9 hb49 hba hE9
          have hll' := hll.out
          go_wp2_with fail
          go_roundw
          case rel => exact ⟨k + 1, S + D, Q, q9, d9, by omega, rfl, rfl, by simp, by rw [hE2.out]; exact hnext, hd9.1, hEa, hb4a⟩
          case measure => simp [intOf]; omega
        · have hR0 : R = [] := List.length_eq_zero_iff.1 (by omega)
          subst hR0
          have hSt : S = E0 - V' 3 := by rw [hS, tm_nil hRr]
          have hv3 := hY3.out wr hb
          have hbz := hbb.out wr hb
          generalize V' 3 = st at *
          have hw : IntKind.i64.wrap (E0 - st) = E0 - st := IntWalk.i64_in _ (by omega)
          subst hSt
          clear hm0 hS hRr hI hri hlY hY3 hOb hETb hbb hb hE
          by_cases hk : k < 6
          all_goals
            go_wp2_with fail
            go_ret
            exact ⟨by simp, hbz⟩
    · have hfb : fsB (V' 0) (V' 1) (V' 2) (V' 3) (V' 4) L T = false := by
        cases e : fsB (V' 0) (V' 1) (V' 2) (V' 3) (V' 4) L T with
        | false => rfl
        | true => exact absurd ((fsB_iff _ _ _ _ _ _ _).1 e) hR
      rw [hfb] at hfc
      clear hR hfb hTL hri hY3 hOb hELb hETb
      go_wp2_with (refine wpList_load_v rfl 28 _ rfl ⟨w2.heap.size, 0, none⟩ rfl _ hl4.out ?_)
      refine (htl.out _ (Below.refl _ _)).mono ?_
      rintro e w5 ⟨pa, ca, rfl, hb5, _, _, _, _⟩
      dsimp only
      have hl5 := Lib.hid (hlY.out w5 hb5)
      have hf5 := Lib.hid (hfc.out w5 hb5)
      replace hb5 := Lib.hid hb5
      clear htl hl4 hlY hfc
      go_wp2_with (refine wpList_load_v rfl 28 _ rfl ⟨w2.heap.size, 0, none⟩ rfl _ hl5.out ?_)
      refine hf5.out.mono ?_
      rintro e w7 ⟨_, h2, hb7⟩
      obtain ⟨bf, rfl⟩ := h2 rfl
      have hb8 := hbb.out w7 (hb5.out.trans (hb7.mono hb5.out.size))
      clear hf5 hl5 hbb hb5 hb7 h2
      go_wp2_with fail
      go_ret
      exact ⟨rfl, hb8⟩
  · have z1 : (zL != 0) = true := by simpa using hz
    clear hz hTL hri hY3 hOb hELb hETb hlY hfc
    go_wp2_with (refine wpList_load_v rfl 28 _ rfl ⟨w2.heap.size, 0, none⟩ rfl _ hl4.out ?_)
    refine (htl.out _ (Below.refl _ _)).mono ?_
    rintro e w5 ⟨pa, ca, rfl, hb5, _, _, _, _⟩
    dsimp only
    have hb8 := hbb.out w5 hb5
    clear htl hl4 hbb hb5
    go_wp2_with fail
    go_ret
    exact ⟨rfl, hb8⟩
end Go.Proofs.Ytcdpiemkbefcoaa
