/-
  'InsertRight': it returns true.
-/
import Derived.Test.YtcdpiemkbefcoaaRg
import Derived.Test.YtcdpiemkbefcoaaSy
import Derived.Test.YtcdpiemkbefcoaaWk
namespace Go.Proofs.Ytcdpiemkbefcoaa
open Go.RowKit

theorem rise_neg (x y cp st en : Int) (l : List (Int × Int)) (t : List Rq) (req i j : Int) (h : req < 0) : riseP x y cp st en l t req i j = (0, 8) := by
  have e : putP x y cp st en l t req i j = ([], 0, 8) := by unfold putP; rw [if_pos (Or.inl h)]
  unfold riseP
  rw [e]
  rfl
/-- what is asked of the times with a request and without it -/
theorem stay_right {x y cp st en : Int} {l : List (Int × Int)} {t : List Rq} {req : Int} {i j : Nat} (hij : i ≤ j) (hj : j ≤ l.length) (hn : ∀ s ∈ l, s.1 ≠ req) (h : RightP x y cp st en (withL l req i j) t) :
    StayP req i l (tmP x y cp st en l t).1 (withL l req i j) (tmP x y cp st en (withL l req i j) t).1 := by
  obtain ⟨h1, h2, _⟩ := right_wo h req
  rw [woP_withL hn hij] at h1 h2
  have hw := woP_withL hn hij
  have hlen := ste_len h2
  rw [hw] at hlen
  refine ⟨hw.symm, hlen.1, hlen.2, fun n s hs hr => ?_⟩
  obtain ⟨v, u, g1, g2, g3, g4⟩ := ste_at h2 hs hr
  refine ⟨v, u, g1, g2, g3, g4, fun hk => ?_⟩
  have hpre : ∀ m, m ≤ i → woP ((withL l req i j).take m) req = l.take m := fun m hm => by
    have e : (withL l req i j).take m = l.take m := by
      unfold withL
      rw [List.take_append_of_le_length (by simp; omega), List.take_take, Nat.min_eq_left hm]
    rw [e, woP_none (fun s hs => hn s (List.mem_of_mem_take hs))]
  have hni : n < i := by
    rcases Nat.lt_or_ge n i with h' | h'
    · exact h'
    · exfalso
      have e := hpre i (Nat.le_refl _)
      have hsub : (woP ((withL l req i j).take i) req).length ≤ (woP ((withL l req i j).take n) req).length := by
        have : (withL l req i j).take i = ((withL l req i j).take n).take i := by rw [List.take_take, Nat.min_eq_left h']
        rw [this]
        unfold woP
        exact ((List.take_sublist _ _).filter _).length_le
      rw [e, List.length_take] at hsub
      omega
  have hkn : (woP ((withL l req i j).take n) req).length = n := by rw [hpre n (by omega), List.length_take]; omega
  rw [hkn] at g1
  have ht1 := tm_right h1
  have ht2 := tm_right h
  obtain ⟨_, _, _, _, _, _, a, ax, ay, nw, r1, r2⟩ := h1
  obtain ⟨_, _, _, _, _, _, b, bx, bye, nw', r3, r4⟩ := h
  have f1 : (tmP x y cp st en l t).1 = a := by
    have h0 := ht1.1
    unfold tmP at h0 ⊢
    by_cases hwr : wrP x y cp st en l t = 0
    · rw [if_neg (by omega), r1]
      simp only
      rw [if_neg (by omega)]
    · rw [if_pos hwr] at h0; exact absurd h0 hwr
  have f2 : (tmP x y cp st en (withL l req i j) t).1 = b := by
    have h0 := ht2.1
    unfold tmP at h0 ⊢
    by_cases hwr : wrP x y cp st en (withL l req i j) t = 0
    · rw [if_neg (by omega), r3]
      simp only
      rw [if_neg (by omega)]
    · rw [if_pos hwr] at h0; exact absurd h0 hwr
  rw [f1] at g1
  rw [f2] at g2
  have d1 : l = l.take i ++ l.drop i := (List.take_append_drop i l).symm
  rw [d1, tmRun_append] at r1
  unfold withL at r3
  rw [tmRun_append] at r3
  cases hp : tmRun t (l.take i) x y st with
  | none => rw [hp] at r1; cases r1
  | some q =>
    rw [hp] at r1 r3
    obtain ⟨u1, hu1, e1⟩ := Option.map_eq_some_iff.1 r1
    obtain ⟨u2, hu2, e2⟩ := Option.map_eq_some_iff.1 r3
    have hql : q.1.length = (l.take i).length := by
      have key : ∀ (m : List (Int × Int)) (ax ay now : Int) (q : Tms × Int × Int × Int), tmRun t m ax ay now = some q → q.1.length = m.length := by
        intro m
        induction m with
        | nil => intro ax ay now q h; cases h; rfl
        | cons s r ih =>
          intro ax ay now q h
          rw [tmRun_cons] at h
          split at h
          · obtain ⟨z, hz, rfl⟩ := Option.map_eq_some_iff.1 h
            simp [ih _ _ _ _ hz]
          · cases h
      exact key _ _ _ _ _ hp
    rw [List.length_take] at hql
    have ea : a = q.1 ++ u1.1 := (congrArg Prod.fst e1).symm
    have eb : b = q.1 ++ u2.1 := (congrArg Prod.fst e2).symm
    rw [ea, List.getElem?_append_left (by omega)] at g1
    rw [eb, List.getElem?_append_left (by omega)] at g2
    rw [g1] at g2
    cases g2
    rfl
set_option maxHeartbeats 4000000 in
set_option maxRecDepth 100000 in
theorem InsertRight_walk (p : Option Addr) (c : Nat) (B : List Int) (n wd k cp a0 a1 : Int) (w : World) (hA : DrA w p B n wd) (hcp : 0 ≤ cp ∧ cp < 256) (ha0 : 0 ≤ a0 ∧ a0 < 256) (ha1 : 0 ≤ a1 ∧ a1 < 256) :
    Calls Try.prog 8 #[.agg (drC p c B n wd k), .int .u8 cp, .agg #[.int .u8 a0, .int .u8 a1]] w fun e w' => e = .returned (.bool true) ∧ Below w.heap.size w w' := by
  have hpc := Lib.hid (fun wx (h : DrA wx p B n wd) => dcase_calls p c B n wd k wx h)
  have hT6 : (dpT B n wd).length ≤ 6 := by rw [dpT_len]; exact dpN_le n
  obtain ⟨hNR, hL12, hLn⟩ := near_dcL B n wd
  have hLT : ∀ s ∈ dcL B n wd, s.1 < (dpT B n wd).length := fun s hs => (hNR.ok s hs).1.2
  have hwk := Lib.hid works_calls
  unfold DcPost at hpc
  clear hNR
  obtain ⟨rq, hrq⟩ : ∃ rq : Int, ((dpT B n wd).length : Int) - 1 = rq := ⟨_, rfl⟩
  rw [hrq] at hpc hLn
  generalize dcL B n wd = L at *
  generalize dpT B n wd = T at *
  generalize dpV B n = V' at *
  replace hLn := Lib.hid hLn
  replace hLT := Lib.hid hLT
  obtain ⟨C, hC⟩ : ∃ C, drC p c B n wd k = C := ⟨_, rfl⟩
  have hCs : C.size = 4 := by rw [← hC]; rfl
  rw [hC] at hpc ⊢
  obtain ⟨V, hV⟩ : ∃ V, (veR V').toArray = V := ⟨_, rfl⟩
  have hVs : V.size = 5 := by rw [← hV]; rfl
  have hV1 : ∀ v ∈ V.toList, v.oneCell' = true := by rw [← hV]; simp [veR, Value.oneCell']
  have hcm : 0 ≤ cp % 40 ∧ cp % 40 < 40 := ⟨Int.emod_nonneg _ (by omega), Int.emod_lt_of_pos _ (by omega)⟩
  obtain ⟨Y, hY⟩ : ∃ Y, V.setIfInBounds 2 (.int .i64 (1 + cp % 40)) = Y := ⟨_, rfl⟩
  have hYs : Y.size = 5 := by rw [← hY]; simpa using hVs
  have hV2 : V[2]? = some (.int .i64 (V' 2)) := by rw [← hV]; rfl
  have hY5 : Y = #[.int .i64 (V' 0), .int .i64 (V' 1), .int .i64 (1 + cp % 40), .int .i64 (V' 3), .int .i64 (V' 4)] := by rw [← hY, ← hV]; rfl
  rw [hV] at hpc
  replace hY := Lib.hid hY
  replace hY5 := Lib.hid hY5
  clear hV
  have hB0 := (Blk.new w C 24).alloc (.cells #[.int .u8 a0, .int .u8 a1] 43)
  have hB1 := Blk.new' w (.cells C 24) #[.int .u8 a0, .int .u8 a1] 43
  have hb1 := (new_below w (.cells C 24)).alloc (by simp) (.cells #[.int .u8 a0, .int .u8 a1] 43)
  have hA1 := hA.below hb1
  replace hB0 := Lib.hid hB0
  replace hB1 := Lib.hid hB1
  replace hb1 := Lib.hid hb1
  replace hA1 := Lib.hid hA1
  clear hA hC
  go_enter Try.func8, Try.ntmps8
  go_upto_region 1 with fail
  refine wp_world' (fun wx => Blk wx w.heap.size C 24 ∧ Blk wx (w.heap.size + 1) #[.int .u8 a0, .int .u8 a1] 43 ∧ DrA wx p B n wd ∧ Below w.heap.size w wx) ⟨hB0.out, hB1.out, hA1.out, hb1.out⟩ ?_
  clear hB0 hB1 hA1 hb1
  rintro w0 ⟨hD, hAt, hA, hb⟩
  go_wp2_with fail
  refine (hwk.out _).mono ?_
  rintro e w1 ⟨rfl, hb1⟩
  have m1 := (Mod.refl (fun _ => False) w0).after hb1
  replace hD := hD.mod m1 (fun h => h)
  replace hAt := Lib.hid (hAt.mod m1 (fun h => h))
  replace hA := hA.below hb1
  replace hb := hb.trans (hb1.mono hb.size)
  clear hb1 hwk m1
  have hld := Lib.hid (run_load_row' (P := Try.prog) w1 _ 24 C 24 _ hD Try.underlying24 rfl (by rw [hCs]; kernel_rfl))
  replace hb := Lib.hid hb
  clear hD
  go_wp2_with (refine wpList_load_v rfl 24 _ rfl ⟨w.heap.size, 0, none⟩ rfl _ hld.out ?_)
  refine (hpc.out _ hA).mono ?_
  rintro e w2 ⟨⟨qL, dL, qT, dT, rfl, hdL, hdT, hEL, hET⟩, hb2⟩
  have hAt2 := hAt.out.mod ((Mod.refl (fun _ => False) _).after hb2) (fun h => h)
  replace hb2 := hb.out.trans (hb2.mono hb.out.size)
  clear hpc hA hb hld hAt
  have mA := (Mod.refl (fun _ => False) w2).alloc (.cells V 28)
  have P3 := Lib.hid (show Blk (w2.alloc (.cells V 28)) w2.heap.size V 28 ∧ Blk (w2.alloc (.cells V 28)) (w.heap.size + 1) #[.int .u8 a0, .int .u8 a1] 43 ∧ Els (w2.alloc (.cells V 28)) qL 2 (L.map stV) ∧ Els (w2.alloc (.cells V 28)) qT 10 (T.map rqV) ∧ Below w.heap.size w (w2.alloc (.cells V 28)) from
    ⟨Blk.new _ _ _, hAt2.mod mA (fun h => h), hEL.below (new_below _ _), hET.below (new_below _ _), hb2.alloc hb2.size _⟩)
  have hgA := hAt2.lt
  have hzw := hb2.size
  have hqL := Lib.hid (show ∀ a, qL = some a → 0 < L.length → a.block ≠ w2.heap.size from fun a ha h0 => by
    have h1 := hEL.cells a ha 0 (stV L[0]) 0 (.int .i64 L[0].1) (by rw [List.getElem?_map, List.getElem?_eq_getElem h0]; rfl) rfl
    have h2 := World.block_lt_of_cell? _ _ h1
    rw [add_block] at h2
    omega)
  have hqT := Lib.hid (show ∀ a, qT = some a → 0 < T.length → a.block ≠ w2.heap.size from fun a ha h0 => by
    have h1 := hET.cells a ha 0 (rqV T[0]) 0 (.int .i64 (T[0] 0)) (by rw [List.getElem?_map, List.getElem?_eq_getElem h0]; rfl) rfl
    have h2 := World.block_lt_of_cell? _ _ h1
    rw [add_block] at h2
    omega)
  clear mA hb2 hAt2 hEL hET
  go_upto_region 4 with (refine wpList_store_new rfl 28 _ _ rfl rfl rfl _ V _ rfl (by rw [hVs]; rfl) hV1 (by rw [hVs]; kernel_rfl) ?_)
  refine wp_world' (fun wx => Blk wx w2.heap.size V 28 ∧ Blk wx (w.heap.size + 1) #[.int .u8 a0, .int .u8 a1] 43 ∧ Els wx qL 2 (L.map stV) ∧ Els wx qT 10 (T.map rqV) ∧ Below w.heap.size w wx) P3.out ?_
  clear P3
  rintro w3 ⟨hV3, hAt3, hEL, hET, hb3⟩
  have hgz := hV3.lt
  have k2 := hV3.cell hV2
  have f2 := hV3.froz 2
  have hM : Mod (fun k => k = w2.heap.size) w3 (w3.setCell ⟨w2.heap.size, 2, none⟩ (.int .i64 (1 + cp % 40))) := (Mod.refl (fun k => k = w2.heap.size) w3).setCell (p := ⟨w2.heap.size, 2, none⟩) (fun _ => rfl) _
  have hEm : ∀ {q : Option Addr} {m : Nat} {R : List (List Value)}, Els w3 q m R → (∀ a, q = some a → 0 < R.length → a.block ≠ w2.heap.size) → Els (w3.setCell ⟨w2.heap.size, 2, none⟩ (.int .i64 (1 + cp % 40))) q m R := fun h hq =>
    ⟨h.nil, h.len, h.big, fun a ha k x j v hk hj => hM.cell_of (by rw [add_block]; exact hq a ha (by have := (List.getElem?_eq_some_iff.1 hk).1; omega)) (h.cells a ha k x j v hk hj)⟩
  have P5 := Lib.hid (show Blk (w3.setCell ⟨w2.heap.size, 2, none⟩ (.int .i64 (1 + cp % 40))) w2.heap.size Y 28 ∧ Blk (w3.setCell ⟨w2.heap.size, 2, none⟩ (.int .i64 (1 + cp % 40))) (w.heap.size + 1) #[.int .u8 a0, .int .u8 a1] 43 ∧
      Els (w3.setCell ⟨w2.heap.size, 2, none⟩ (.int .i64 (1 + cp % 40))) qL 2 (L.map stV) ∧ Els (w3.setCell ⟨w2.heap.size, 2, none⟩ (.int .i64 (1 + cp % 40))) qT 10 (T.map rqV) ∧ Below w.heap.size w (w3.setCell ⟨w2.heap.size, 2, none⟩ (.int .i64 (1 + cp % 40))) from
    ⟨by rw [← hY.out]; exact hV3.set 2 _, hAt3.mod hM (fun h => by have : w.heap.size + 1 = w2.heap.size := h; omega), hEm hEL (fun a ha h0 => hqL.out a ha (by simpa using h0)), hEm hET (fun a ha h0 => hqT.out a ha (by simpa using h0)), hb3.trans (hM.below hb3.size (fun k h => by have : k = w2.heap.size := h; omega))⟩)
  have s1 : IntKind.i64.wrap (cp % 40) = cp % 40 := IntWalk.i64_in _ (by omega)
  have s2 : IntKind.i64.wrap (1 + cp % 40) = 1 + cp % 40 := IntWalk.i64_in _ (by omega)
  have s3 : IntKind.u8.wrap (cp % 40) = cp % 40 := by rw [IntKind.wrap]; first | omega | (simp [IntKind.bits]; omega)
  clear hV3 hAt3 hEL hET hb3 hM hEm hqL hqT hY hV1 hVs
  go_upto_region 5 with fail
  refine wp_world' (fun wx => Blk wx w2.heap.size Y 28 ∧ Blk wx (w.heap.size + 1) #[.int .u8 a0, .int .u8 a1] 43 ∧ Els wx qL 2 (L.map stV) ∧ Els wx qT 10 (T.map rqV) ∧ Below w.heap.size w wx) P5.out ?_
  clear P5 k2 f2 s1 s2 s3
  rintro w4 ⟨hY4, hAt4, hEL, hET, hb4⟩
  have kA0 := hAt4.cell (i := 0) rfl
  have kA1 := hAt4.cell (i := 1) rfl
  have hlY := Lib.hid (fun (wx : World) (h : Below w4.heap.size w4 wx) => run_load_row' (P := Try.prog) wx w2.heap.size 28 Y 28 _ (hY4.mod ((Mod.refl (fun _ => False) _).after h) (fun h => h)) Try.underlying28 rfl (by rw [hYs]; kernel_rfl))
  obtain ⟨ni, hni⟩ : ∃ m : Nat, (m : Int) = a0 % ((L.length : Int) + 1) := ⟨(a0 % ((L.length : Int) + 1)).toNat, Int.toNat_of_nonneg (Int.emod_nonneg _ (by omega))⟩
  have hnil : ni ≤ L.length := by have := Int.emod_lt_of_pos a0 (show (0 : Int) < (L.length : Int) + 1 by omega); omega
  obtain ⟨nk, hnk⟩ : ∃ m : Nat, (m : Int) = a1 % ((L.length : Int) + 1 - (ni : Int)) := ⟨(a1 % ((L.length : Int) + 1 - (ni : Int))).toNat, Int.toNat_of_nonneg (Int.emod_nonneg _ (by omega))⟩
  have hnkl : ni + nk ≤ L.length := by have := Int.emod_lt_of_pos a1 (show (0 : Int) < (L.length : Int) + 1 - (ni : Int) by omega); omega
  have s1 : IntKind.i64.wrap a0 = a0 := IntWalk.i64_in _ (by omega)
  have s2 : IntKind.i64.wrap a1 = a1 := IntWalk.i64_in _ (by omega)
  replace hni := Lib.hid hni
  replace hnk := Lib.hid hnk
  replace hrq := Lib.hid hrq
  have hELb := Lib.hid (fun (wx : World) (h : Below w4.heap.size w4 wx) => hEL.below h)
  have hETb := Lib.hid (fun (wx : World) (h : Below w4.heap.size w4 wx) => hET.below h)
  have hbb := Lib.hid (fun (wx : World) (h : Below w4.heap.size w4 wx) => hb4.trans (h.mono hb4.size))
  clear hAt4 hY4 hEL hET hb4
  go_upto_region 6 with (first | (refine wpList_v rfl (.int .i64 ni) (run_rem64 rfl rfl rfl (by omega) (by omega) hni.out (by omega)) ?_))
  go_upto_region 7 with (first | (refine wpList_v rfl (.int .i64 nk) (run_rem64 rfl rfl rfl (by omega) (by omega) hnk.out (by omega)) ?_))
  obtain ⟨nj, hnj⟩ : ∃ m, ni + nk = m := ⟨_, rfl⟩
  rw [show (ni : Int) + (nk : Int) = (nj : Int) by omega]
  have hri := Lib.hid (fun (wx : World) (h : Below w4.heap.size w4 wx) => (by
    have := rise_calls (V' 0) (V' 1) (1 + cp % 40) (V' 3) (V' 4) rq ni nj qL qT dL dT L T wx (hELb.out wx h) hdL.1 (hETb.out wx h)
    rw [← hY5.out] at this
    exact this : Calls Try.prog 15 #[.agg Y, .slice qL L.length dL, .slice qT T.length dT, .int .i64 rq, .int .i64 (ni : Int), .int .i64 (nj : Int)] wx fun e w' => e = .returned (.tuple #[.int .i64 (riseP (V' 0) (V' 1) (1 + cp % 40) (V' 3) (V' 4) L T rq ni nj).1, .int .i64 (riseP (V' 0) (V' 1) (1 + cp % 40) (V' 3) (V' 4) L T rq ni nj).2]) ∧ Below wx.heap.size wx w'))
  have hl4 := Lib.hid (hlY.out w4 (Below.refl _ _))
  clear kA0 kA1 s1 s2 hni hnk
  generalize 1 + cp % 40 = cpp at *
  by_cases hneg : rq < 0
  · rw [rise_neg _ _ _ _ _ _ _ _ _ _ hneg] at hri
    dsimp only at hri
    clear hlY hELb hETb
    go_wp2_with (refine wpList_load_v rfl 28 _ rfl ⟨w2.heap.size, 0, none⟩ rfl _ hl4.out ?_)
    refine (hri.out _ (Below.refl _ _)).mono ?_
    rintro e w5 ⟨rfl, hb5⟩
    have hb6 := hbb.out w5 hb5
    clear hri hbb hb5 hl4
    go_wp2_with fail
    go_ret
    exact ⟨rfl, hb6⟩
  have hrT : 0 ≤ rq ∧ rq < (T.length : Int) := ⟨by omega, by have := hrq.out; omega⟩
  have hij : ni ≤ nj := by omega
  have hjl : nj ≤ L.length := by omega
  have hwi := Lib.hid (fun (wx : World) (h : Below w4.heap.size w4 wx) => (by
    have := with_calls qL dL L rq ni nj wx (hELb.out wx h) hdL.1
    rw [withP_some hij hjl hrT.1 hLn.out (by omega)] at this
    exact this : Calls Try.prog 21 #[.slice qL L.length dL, .int .i64 rq, .int .i64 (ni : Int), .int .i64 (nj : Int)] wx (WiPost wx (some (withL L rq ni nj)))))
  have hMl := Lib.hid (withL_len L rq hij hjl)
  have hfc := Lib.hid (fun (q : Option Addr) (d : Nat) (wx : World) (hq : Els wx q 2 ((withL L rq ni nj).map stV)) (h : Below w4.heap.size w4 wx) => (by
    have := fcheck_calls (V' 0) (V' 1) cpp (V' 3) (V' 4) q qT d dT (withL L rq ni nj) T wx hq (hETb.out wx h)
    rw [← hY5.out] at this
    exact this : Calls Try.prog 22 #[.agg Y, .slice q (withL L rq ni nj).length d, .slice qT T.length dT] wx (FsPost wx (fsB (V' 0) (V' 1) cpp (V' 3) (V' 4) (withL L rq ni nj) T))))
  by_cases hR : RightP (V' 0) (V' 1) cpp (V' 3) (V' 4) (withL L rq ni nj) T
  · obtain ⟨hRl, r1, r2⟩ := rise_right hij hjl hrT hLn.out (by omega) hR
    obtain ⟨dt0, dt1⟩ := det_right hij hjl hrT hLn.out (by omega) hR
    have hst := stay_right hij hjl hLn.out hR
    obtain ⟨tl0, tl1, tl2, tl3, tl4, tl5⟩ := tm_right hRl
    obtain ⟨tm0, tm1, tm2, tm3, tm4, tm5⟩ := tm_right hR
    have hfb : fsB (V' 0) (V' 1) cpp (V' 3) (V' 4) (withL L rq ni nj) T = true := (fsB_iff _ _ _ _ _ _ _).2 hR
    rw [hfb] at hfc
    rw [r1] at hri
    dsimp only at hri
    have htl := Lib.hid (fun (wx : World) (h : Below w4.heap.size w4 wx) => (by
      have := times_calls (V' 0) (V' 1) cpp (V' 3) (V' 4) qL qT dL dT L T wx (hELb.out wx h) (hETb.out wx h)
      rw [← hY5.out] at this
      exact this : Calls Try.prog 23 #[.agg Y, .slice qL L.length dL, .slice qT T.length dT] wx (TmPost wx (tmP (V' 0) (V' 1) cpp (V' 3) (V' 4) L T))))
    have htm := Lib.hid (fun (q : Option Addr) (d : Nat) (wx : World) (hq : Els wx q 2 ((withL L rq ni nj).map stV)) (h : Below w4.heap.size w4 wx) => (by
      have := times_calls (V' 0) (V' 1) cpp (V' 3) (V' 4) q qT d dT (withL L rq ni nj) T wx hq (hETb.out wx h)
      rw [← hY5.out] at this
      exact this : Calls Try.prog 23 #[.agg Y, .slice q (withL L rq ni nj).length d, .slice qT T.length dT] wx (TmPost wx (tmP (V' 0) (V' 1) cpp (V' 3) (V' 4) (withL L rq ni nj) T))))
    have hdt := Lib.hid (fun (wx : World) (h : Below w4.heap.size w4 wx) => (by
      have := detour_calls (V' 0) (V' 1) cpp (V' 3) (V' 4) rq ni nj qL qT dL dT L T wx (hELb.out wx h) hdL.1 (hETb.out wx h)
      rw [← hY5.out, dt0] at this
      exact this : Calls Try.prog 16 #[.agg Y, .slice qL L.length dL, .slice qT T.length dT, .int .i64 rq, .int .i64 (ni : Int), .int .i64 (nj : Int)] wx fun e w' => e = .returned (.tuple #[.int .i64 (detP (V' 0) (V' 1) cpp (V' 3) (V' 4) L T rq ni nj).1, .int .i64 0]) ∧ Below wx.heap.size wx w'))
    generalize (detP (V' 0) (V' 1) cpp (V' 3) (V' 4) L T rq ni nj).1 = dv at *
    obtain ⟨⟨tA, eL, zL⟩, hTL⟩ : ∃ x, tmP (V' 0) (V' 1) cpp (V' 3) (V' 4) L T = x := ⟨_, rfl⟩
    obtain ⟨⟨tB, eM, zM⟩, hTM⟩ : ∃ x, tmP (V' 0) (V' 1) cpp (V' 3) (V' 4) (withL L rq ni nj) T = x := ⟨_, rfl⟩
    rw [hTL] at htl tl0 tl1 tl2 tl5 hri r2 hst
    rw [hTM] at htm tm0 tm1 tm2 tm5 hri r2 hst
    dsimp only at tl0 tl1 tl2 tl5 hri r2 tm0 tm1 tm2 tm5 hst
    subst tl0
    subst tm0
    clear hTL hTM hR hRl r1 hfb dt0
    generalize withL L rq ni nj = M at *
    have hsy := Lib.hid (fun (pa q pb : Option Addr) (ca d cb : Nat) (wx : World) (hA : Els wx pa 3 (tA.map tmV)) (hM : Els wx q 2 (M.map stV)) (hB : Els wx pb 3 (tB.map tmV)) (h : Below w4.heap.size w4 wx) => (by
      have := stays_calls qL pa q pb dL ca d cb L M tA tB rq ni wx (hELb.out wx h) hA hM hB (by omega) (by rw [hMl.out]; omega) hst
      rw [tl5, tm5] at this
      exact this : Calls Try.prog 24 #[.slice qL L.length dL, .slice pa L.length ca, .slice q M.length d, .slice pb M.length cb, .int .i64 rq, .int .i64 (ni : Int)] wx fun e w' => e = .returned (.bool true) ∧ Below wx.heap.size wx w'))
    have hsub : IntKind.i64.wrap (eM - eL) = eM - eL := IntWalk.i64_in _ (by omega)
    obtain ⟨D, hD⟩ : ∃ D, eM - eL = D := ⟨_, rfl⟩
    rw [hD] at hri hsub r2
    replace hsub := Lib.hid hsub
    replace hD := Lib.hid hD
    replace tl5 := Lib.hid tl5
    replace tm5 := Lib.hid tm5
    clear hst tl1 tl2 tl3 tl4 tm1 tm2 tm3 tm4
    go_wp2_with (refine wpList_load_v rfl 28 _ rfl ⟨w2.heap.size, 0, none⟩ rfl _ hl4.out ?_)
    refine (hri.out _ (Below.refl _ _)).mono ?_
    rintro e w5 ⟨rfl, hb5⟩
    clear hri hl4
    go_wp2_with fail
    refine (hwi.out w5 hb5).mono ?_
    rintro e w6 ⟨⟨q, d, rfl, hd, hEM⟩, hb6⟩
    have hb46 := hb5.trans (hb6.mono hb5.size)
    simp only [Option.getD_some, Option.isSome_some] at hd hEM ⊢
    have hl6 := Lib.hid (hlY.out w6 hb46)
    have hf6 := Lib.hid (hfc.out q d w6 hEM hb46)
    replace hb46 := Lib.hid hb46
    replace hEM := Lib.hid hEM
    clear hwi hfc hb5 hb6
    go_wp2_with (refine wpList_load_v rfl 28 _ rfl ⟨w2.heap.size, 0, none⟩ rfl _ hl6.out ?_)
    refine hf6.out.mono ?_
    rintro e w7 ⟨h1, _, hb7⟩
    obtain rfl := h1 rfl
    have hb47 := hb46.out.trans (hb7.mono hb46.out.size)
    have hE7 := Lib.hid (hEM.out.below hb7)
    have hl7 := Lib.hid (hlY.out w7 hb47)
    have ht7 := Lib.hid (htl.out w7 hb47)
    replace hb47 := Lib.hid hb47
    clear hf6 hl6 hb46 hb7 h1 hEM htl
    go_wp2_with (refine wpList_load_v rfl 28 _ rfl ⟨w2.heap.size, 0, none⟩ rfl _ hl7.out ?_)
    refine ht7.out.mono ?_
    rintro e w8 ⟨pa, ca, rfl, hb8, hEA, _, _, _⟩
    dsimp only at hEA
    dsimp only
    rw [tl5.out]
    have hb48 := hb47.out.trans (hb8.mono hb47.out.size)
    have hE8 := hE7.out.below hb8
    have hl8 := Lib.hid (hlY.out w8 hb48)
    have ht8 := Lib.hid (htm.out q d w8 hE8 hb48)
    replace hb48 := Lib.hid hb48
    replace hE8 := Lib.hid hE8
    replace hEA := Lib.hid hEA
    clear ht7 hl7 hb47 hb8 hE7 htm
    go_wp2_with (refine wpList_load_v rfl 28 _ rfl ⟨w2.heap.size, 0, none⟩ rfl _ hl8.out ?_)
    refine ht8.out.mono ?_
    rintro e w9 ⟨pb, cb, rfl, hb9, hEB, _, _, _⟩
    dsimp only at hEB
    dsimp only
    rw [tm5.out]
    have hb49 := hb48.out.trans (hb9.mono hb48.out.size)
    have hE9 := Lib.hid (hE8.out.below hb9)
    have hA9 := Lib.hid (hEA.out.below hb9)
    have hl9 := Lib.hid (hlY.out w9 hb49)
    have hd9 := Lib.hid (hdt.out w9 hb49)
    replace hb49 := Lib.hid hb49
    replace hEB := Lib.hid hEB
    clear ht8 hl8 hb48 hb9 hE8 hEA hdt
    go_wp2_with (refine wpList_load_v rfl 28 _ rfl ⟨w2.heap.size, 0, none⟩ rfl _ hl9.out ?_)
    refine hd9.out.mono ?_
    rintro e wa ⟨rfl, hba⟩
    have hb4a := hb49.out.trans (hba.mono hb49.out.size)
    have hsa := Lib.hid (hsy.out pa q pb ca d cb wa (hA9.out.below hba) (hE9.out.below hba) (hEB.out.below hba) hb4a)
    replace hb4a := Lib.hid hb4a
    clear hd9 hl9 hb49 hba hE9 hA9 hEB hsy hlY hELb hETb
    have s5 : wrap64 (eM - eL) = D := by rw [hD.out, ← IntWalk.i64_left, hsub.out]
    go_wp2_with fail
    refine hsa.out.mono ?_
    rintro e wb ⟨rfl, hbb2⟩
    have hbz := hbb.out wb (hb4a.out.trans (hbb2.mono hb4a.out.size))
    clear hsa hb4a hbb2 hbb
    go_wp2_with fail
    go_ret
    exact ⟨rfl, hbz⟩
  · obtain ⟨r1, r2⟩ := rise_wrong hij hjl hrT hLn.out (by omega) hR
    have hfb : fsB (V' 0) (V' 1) cpp (V' 3) (V' 4) (withL L rq ni nj) T = false := by
      cases e : fsB (V' 0) (V' 1) cpp (V' 3) (V' 4) (withL L rq ni nj) T with
      | false => rfl
      | true => exact absurd ((fsB_iff _ _ _ _ _ _ _).1 e) hR
    rw [hfb] at hfc
    rw [r1] at hri
    generalize (riseP (V' 0) (V' 1) cpp (V' 3) (V' 4) L T rq ni nj).2 = er at *
    have er0 : (er == 0) = false := by simpa using r2
    have er1 : (er != 0) = true := by simpa using r2
    clear hR r1 hfb r2
    generalize withL L rq ni nj = M at *
    go_wp2_with (refine wpList_load_v rfl 28 _ rfl ⟨w2.heap.size, 0, none⟩ rfl _ hl4.out ?_)
    refine (hri.out _ (Below.refl _ _)).mono ?_
    rintro e w5 ⟨rfl, hb5⟩
    clear hri hl4
    go_wp2_with fail
    refine (hwi.out w5 hb5).mono ?_
    rintro e w6 ⟨⟨q, d, rfl, hd, hEM⟩, hb6⟩
    have hb46 := hb5.trans (hb6.mono hb5.size)
    simp only [Option.getD_some, Option.isSome_some] at hd hEM ⊢
    have hl6 := Lib.hid (hlY.out w6 hb46)
    have hf6 := Lib.hid (hfc.out q d w6 hEM hb46)
    replace hb46 := Lib.hid hb46
    clear hwi hfc hlY hELb hETb hb5 hb6 hEM
    go_wp2_with (refine wpList_load_v rfl 28 _ rfl ⟨w2.heap.size, 0, none⟩ rfl _ hl6.out ?_)
    refine hf6.out.mono ?_
    rintro e w7 ⟨_, h2, hb7⟩
    obtain ⟨bf, rfl⟩ := h2 rfl
    have hb8 := hbb.out w7 (hb46.out.trans (hb7.mono hb46.out.size))
    clear hf6 hl6 hbb hb46 hb7 h2
    go_wp2_with fail
    go_ret
    exact ⟨rfl, hb8⟩
end Go.Proofs.Ytcdpiemkbefcoaa
